/- The abstract machine: the other operations that are no call of a function. -/
import Derived.Test.YtajgclnahfmfmaaVm4
namespace Go.Vm
open Go

section
variable {P : Program} {A : Nat → Prop} {h : Hp} {μ : Id → Nat} {w : World}

/-! ## numbers, bools, strings -/
theorem arith_good {k : IntKind} {op : BinOp} {a b : Int} {v : PV} (hl : arith k op a b = some v) {xt : TypeId} {x y : Operand} (hs : op ≠ .shl ∧ op ≠ .shr) :
    ∃ v', (do eqGuard op xt x y (.int k a) (.int k b); binOp op xt (.int k a) (.int k b) : Sem Value).run P w = .ok v' w ∧ ∀ (h : Hp) μ L, VR h μ w L v v' := by
  cases op <;> simp only [arith] at hl
  case quo =>
    split at hl <;> simp at hl
    rename_i hb; subst hl
    exact ⟨.int k (k.wrap (a.tdiv b)), by simp [eqGuard, binOp, Op.intDiv, hb], fun h μ L => .t (.int _ _)⟩
  case rem =>
    split at hl <;> simp at hl
    rename_i hb; subst hl
    exact ⟨.int k (a.tmod b), by simp [eqGuard, binOp, Op.intDiv, hb], fun h μ L => .t (.int _ _)⟩
  case add => cases hl; exact ⟨.int k (k.wrap (a + b)), by simp [eqGuard, binOp, Op.intArith], fun h μ L => .t (.int _ _)⟩
  case sub => cases hl; exact ⟨.int k (k.wrap (a - b)), by simp [eqGuard, binOp, Op.intArith], fun h μ L => .t (.int _ _)⟩
  case mul => cases hl; exact ⟨.int k (k.wrap (a * b)), by simp [eqGuard, binOp, Op.intArith], fun h μ L => .t (.int _ _)⟩
  case and => cases hl; exact ⟨_, by simp [eqGuard, binOp, Op.intBits], fun h μ L => .t (.int _ _)⟩
  case or => cases hl; exact ⟨_, by simp [eqGuard, binOp, Op.intBits], fun h μ L => .t (.int _ _)⟩
  case xor => cases hl; exact ⟨_, by simp [eqGuard, binOp, Op.intBits], fun h μ L => .t (.int _ _)⟩
  case andNot => cases hl; exact ⟨_, by simp [eqGuard, binOp, Op.intBits], fun h μ L => .t (.int _ _)⟩
  case eql => cases hl; exact ⟨.bool (a == b), by simp [eqGuard, binOp, Op.intCmp], fun h μ L => .t (.bool _)⟩
  case neq => cases hl; exact ⟨.bool (a != b), by simp [eqGuard, binOp, Op.intCmp], fun h μ L => .t (.bool _)⟩
  case lss => cases hl; exact ⟨.bool (decide (a < b)), by simp [eqGuard, binOp, Op.intCmp], fun h μ L => .t (.bool _)⟩
  case leq => cases hl; exact ⟨.bool (decide (a ≤ b)), by simp [eqGuard, binOp, Op.intCmp], fun h μ L => .t (.bool _)⟩
  case gtr => cases hl; exact ⟨.bool (decide (a > b)), by simp [eqGuard, binOp, Op.intCmp], fun h μ L => .t (.bool _)⟩
  case geq => cases hl; exact ⟨.bool (decide (a ≥ b)), by simp [eqGuard, binOp, Op.intCmp], fun h μ L => .t (.bool _)⟩
  all_goals (cases hl)

theorem shift_good {k k' : IntKind} {left : Bool} {a b : Int} {v : PV} (hl : shiftPV k left a b = some v) {xt : TypeId} {x y : Operand} :
    ∃ v', (do eqGuard (if left then .shl else .shr) xt x y (.int k a) (.int k' b); binOp (if left then .shl else .shr) xt (.int k a) (.int k' b) : Sem Value).run P w = .ok v' w ∧ ∀ (h : Hp) μ L, VR h μ w L v v' := by
  unfold shiftPV at hl
  split at hl <;> try (simp at hl; done)
  rename_i hb
  cases left <;> simp at hl <;> subst hl
  · exact ⟨_, by simp [eqGuard, binOp, Op.shift, hb], fun h μ L => .t (.int _ _)⟩
  · exact ⟨_, by simp [eqGuard, binOp, Op.shift, hb], fun h μ L => .t (.int _ _)⟩

theorem bin_good {op : BinOp} {xt : TypeId} {p q v : PV} {u u' : Value} (hp : VR h μ w (LL A h μ) p u) (hq : VR h μ w (LL A h μ) q u') (hl : binPV P h op xt p q = some v) {x y : Operand} :
    ∃ v', (do eqGuard op xt x y u u'; binOp op xt u u' : Sem Value).run P w = .ok v' w ∧ VR h μ w (LL A h μ) v v' := by
  unfold binPV at hl
  split at hl
  · rename_i k a k' b
    have := int_of hp.tree; subst this
    have := int_of hq.tree; subst this
    have go : ∀ op : BinOp, op ≠ .shl ∧ op ≠ .shr → (if k = k' then arith k op a b else none) = some v → ∃ v', (do eqGuard op xt x y (.int k a) (.int k' b); binOp op xt (.int k a) (.int k' b) : Sem Value).run P w = .ok v' w ∧ VR h μ w (LL A h μ) v v' := by
      intro op hs hl2
      by_cases hk : k = k'
      case neg => rw [if_neg hk] at hl2; cases hl2
      rw [if_pos hk] at hl2
      obtain ⟨v', h1, h2⟩ := arith_good (P := P) (w := w) hl2 (xt := xt) (x := x) (y := y) hs
      exact ⟨v', by rw [← hk]; exact h1, h2 _ _ _⟩
    split at hl
    · obtain ⟨v', h1, h2⟩ := shift_good (P := P) (w := w) (k' := k') hl (xt := xt) (x := x) (y := y)
      exact ⟨v', h1, h2 _ _ _⟩
    · obtain ⟨v', h1, h2⟩ := shift_good (P := P) (w := w) (k' := k') hl (xt := xt) (x := x) (y := y)
      exact ⟨v', h1, h2 _ _ _⟩
    · rename_i h1 h2
      exact go op ⟨h1, h2⟩ hl
  · rename_i a b
    have := bool_of hp.tree; subst this
    have := bool_of hq.tree; subst this
    split at hl <;> try (simp at hl; done)
    rename_i hb
    have hu : P.underlying xt = some .bool := by
      unfold isBoolB at hb
      split at hb <;> first | assumption | (simp at hb)
    have he : (Op.equal xt (.bool a) (.bool b)).run P w = .ok (a == b) w := by
      unfold Op.equal Op.maxDepth Op.equalIn
      simp [run_underlying hu]
    split at hl <;> simp at hl <;> subst hl
    · exact ⟨.bool (a == b), by simp [eqGuard, binOp, he], .t (.bool _)⟩
    · refine ⟨.bool (a != b), by simp [eqGuard, binOp, he, bne], .t (.bool _)⟩
  · rename_i a b
    have := str_of hp.tree; subst this
    have := str_of hq.tree; subst this
    split at hl <;> simp at hl
    · obtain ⟨hb, rfl⟩ := hl
      have hm : IntKind.i64.max = 9223372036854775807 := rfl
      exact ⟨.string (a ++ b), by
        simp [eqGuard, binOp, Op.stringOp]; omega, .t (.str _)⟩
    all_goals (subst hl; refine ⟨.bool _, ?_, .t (.bool _)⟩; simp [eqGuard, binOp, Op.stringOp])
  · split at hl <;> try (simp at hl; done)
    rename_i e b he hb
    obtain ⟨hu, _⟩ := elem_under he
    have hq' : u' = .slice none 0 0 := by
      rcases sl_of hq.tree with ⟨_, _, rfl⟩ | ⟨h, _⟩
      · rfl
      · cases h
    subst hq'
    have hp' : ∃ a len cap, u = .slice a len cap ∧ a.isNone = b := by
      unfold isNilPV at hb
      split at hb <;> simp at hb
      · rcases sl_of hp.tree with ⟨rfl, _, rfl⟩ | ⟨rfl, a, cap, _, _, rfl, _⟩
        · exact ⟨none, 0, 0, rfl, by simpa using hb⟩
        · exact ⟨some a, _, _, rfl, by simpa using hb⟩
      · obtain ⟨hv, rfl⟩ := hb
        obtain ⟨cap, rfl⟩ := hp.rf_val hv
        exact ⟨_, _, _, rfl, rfl⟩
    obtain ⟨a, len, cap, rfl, rfl⟩ := hp'
    have he := run_equal_slice_nil (P := P) w xt e a len cap hu
    split at hl <;> simp at hl <;> subst hl
    · exact ⟨.bool a.isNone, by simp [eqGuard, binOp, he], .t (.bool _)⟩
    · refine ⟨.bool (!a.isNone), by simp [eqGuard, binOp, he], ?_⟩
      have : (!a.isNone) = a.isSome := by cases a <;> rfl
      first | exact .t (.bool _) | (rw [this]; exact .t (.bool _))
  · cases hl

theorem un_good {op : UnOp} {p v : PV} {u : Value} (hp : VR h μ w (LL A h μ) p u) (hl : unPV op p = some v) :
    ∃ v', (Op.unary op u).run P w = .ok v' w ∧ VR h μ w (LL A h μ) v v' := by
  unfold unPV at hl
  split at hl <;> simp at hl <;> subst hl
  · have := int_of hp.tree; subst this
    exact ⟨_, by simp [Op.unary, Op.intArith], .t (.int _ _)⟩
  · have := bool_of hp.tree; subst this
    exact ⟨_, by simp [Op.unary], .t (.bool _)⟩
  · have := int_of hp.tree; subst this
    exact ⟨_, by simp [Op.unary, Op.intBits], .t (.int _ _)⟩

theorem int_under {t : TypeId} {k : IntKind} (hk : intB P t = some k) : P.underlying t = some (.int k) := by
  unfold intB at hk
  split at hk <;> simp at hk
  subst hk; assumption

theorem conv_good {src dst : TypeId} {p v : PV} {u : Value} (hp : VR h μ w (LL A h μ) p u) (hl : convPV P dst src p = some v) :
    ∃ v', (convert src dst u).run P w = .ok v' w ∧ VR h μ w (LL A h μ) v v' := by
  unfold convPV at hl
  split at hl <;> simp at hl
  subst hl
  rename_i ks k kk n hs hd
  have := int_of hp.tree; subst this
  exact ⟨_, by simp [convert, run_underlying (int_under hs), run_underlying (int_under hd), Conv.intToInt], .t (.int _ _)⟩

theorem str_under {t : TypeId} (hk : isStrB P t = true) : P.underlying t = some .string := by
  unfold isStrB at hk
  split at hk <;> first | assumption | (simp at hk)

theorem index_good {t : TypeId} {p q v : PV} {u i : Value} (hp : VR h μ w (LL A h μ) p u) (hq : VR h μ w (LL A h μ) q i) (hl : indexPV P t p q = some v) :
    ∃ v', (Instr.index t u i).run P w = .ok v' w ∧ VR h μ w (LL A h μ) v v' := by
  unfold indexPV at hl
  split at hl <;> try (simp at hl; done)
  rename_i s k n
  split at hl <;> try (simp at hl; done)
  rename_i hc
  split at hl <;> simp at hl
  subst hl
  rename_i b hb
  have := str_of hp.tree; subst this
  have := int_of hq.tree; subst this
  exact ⟨_, by simp [Instr.index, asIntOf, run_underlying (str_under hc.1), hc.2, hb], .t (.int _ _)⟩

/-! ## memory -/
theorem splice_get (l vs : List PV) (off : Nat) (ho : off + vs.length ≤ l.length) (k : Nat) :
    (splice l off vs)[k]? = if k < off then l[k]? else if k < off + vs.length then vs[k - off]? else l[k]? := by
  unfold splice
  have htl : (l.take off).length = off := by rw [List.length_take]; omega
  split
  · rename_i hk
    rw [List.append_assoc, List.getElem?_append_left (by rw [htl]; exact hk), List.getElem?_take, if_pos hk]
  · rename_i hk
    split
    · rename_i hk2
      rw [List.append_assoc, List.getElem?_append_right (by rw [htl]; omega), htl, List.getElem?_append_left (by omega)]
    · rename_i hk2
      rw [List.append_assoc, List.getElem?_append_right (by rw [htl]; omega), htl, List.getElem?_append_right (by omega), List.getElem?_drop]
      congr 1; omega
theorem splice_length (l vs : List PV) (off : Nat) (ho : off + vs.length ≤ l.length) : (splice l off vs).length = l.length := by
  simp [splice]; omega

theorem store_good (hr : HR A h μ w) {t : TypeId} {p q : PV} {u x : Value} {h' : Hp} (hp : VR h μ w (LL A h μ) p u) (hq : VR h μ w (LL A h μ) q x) (hl : storePV P t p q h = some h') :
    ∃ w' μ', (Instr.storeAt t u x).run P w = .ok () w' ∧ HR A h' μ' w' ∧ Ext h μ w h' μ' w' := by
  unfold storePV at hl
  split at hl <;> try (simp at hl; done)
  rename_i id n off
  cases ho : hget h id with
  | none => simp [ho] at hl
  | some o =>
    simp only [ho] at hl
    split at hl <;> simp at hl
    subst hl
    rename_i hc
    obtain ⟨hlen, hlive, hi, hsz, hoff, hone⟩ := hc
    have hu : u = .pointer (some ⟨μ id, off, none⟩) := hp.ad_val (by simp [valid, ho, hlen])
    subst hu
    obtain ⟨hcl, hcell⟩ := hq.cells hone
    have hnz : o.esz ≠ 0 := by
      cases hp with
      | ad ho' hz _ _ _ => rw [ho] at ho'; cases ho'; exact hz
    obtain ⟨cur, cap, hblk, hesz, hag, hcs, hcur, hle, hmax, hcells⟩ := hr.obj id o ho hnz
    have hccur : o.cs.length ≤ cur.size := by rw [hcs, hcur]; exact Nat.mul_le_mul_right _ hle
    have h1 : ∀ v ∈ x.cells.toList, v.oneCell' = true := by
      intro v hv
      obtain ⟨k, hk, rfl⟩ := List.mem_iff_getElem.1 hv
      have hk' : k < q.cells.length := by rw [hcl]; simpa using hk
      have := (hcell k q.cells[k] (List.getElem?_eq_getElem hk')).2
      have hkk : k < x.cells.size := by simpa using hk
      simpa [Array.getD, hkk] using this
    have hst := run_storeCells_at (P := P) (μ id) off o.elem x.cells.toList 0 cur w hblk (by simp; omega) h1
    simp only [Nat.add_zero] at hst
    refine ⟨w.setRow (μ id) (cur.toList.take off ++ x.cells.toList ++ cur.toList.drop (off + x.cells.toList.length)).toArray, setμ μ id (μ id), ?_, ?_⟩
    · simp only [Instr.storeAt, Instr.sureAddr, storeVar, Sem.run_bind, Sem.run_pure, Result.andThen_ok, run_sizeOf_info w hi]
      rw [if_neg (by rw [← hsz]; simp [hcl])]
      exact hst
    refine HR.set hr id o { o with cs := splice o.cs off q.cells } (μ id) (cur.toList.take off ++ x.cells.toList ++ cur.toList.drop (off + x.cells.toList.length)).toArray cap ho hnz hlive ⟨rfl, rfl, rfl⟩ (by simp) (fun k _ hk => setRow_other w (μ id) k _ hk)
      (fun c et fz hc => ⟨_, _, _, setRow_heap w (μ id) cur _ o.elem (0, 0) hblk, by
        rw [hblk] at hc; cases hc
        simp; omega⟩) (.inl rfl) (setRow_heap w (μ id) cur _ o.elem (0, 0) hblk) (by rw [splice_length _ _ _ hoff]; exact hcs) (by rw [← hcur]; simp; omega) hle hmax (Nat.le_refl _) (fun _ => rfl) ⟨rfl, rfl, rfl, hlive⟩ ?_
    intro k p hk
    rw [splice_get _ _ _ hoff] at hk
    have hget : ∀ j, j < cur.size → (cur.toList.take off ++ x.cells.toList ++ cur.toList.drop (off + x.cells.toList.length)).toArray.getD j Go.undef = if j < off then cur.getD j Go.undef else if j < off + q.cells.length then x.cells.getD (j - off) Go.undef else cur.getD j Go.undef := by
      intro j hj
      have htl : (cur.toList.take off).length = off := by rw [List.length_take]; simp; omega
      rw [list_getD_toArray]
      simp only [List.getD, Array.getD]
      split
      · rename_i hk
        rw [List.append_assoc, List.getElem?_append_left (by rw [htl]; exact hk), List.getElem?_take, if_pos hk]
        simp [hj]
      · rename_i hk
        split
        · rename_i hk2
          rw [List.append_assoc, List.getElem?_append_right (by rw [htl]; omega), htl, List.getElem?_append_left (by simp; omega)]
          have : j - off < x.cells.size := by omega
          simp [this]
        · rename_i hk2
          rw [List.append_assoc, List.getElem?_append_right (by rw [htl]; omega), htl, List.getElem?_append_right (by simp; omega), List.getElem?_drop]
          have e : off + x.cells.toList.length + (j - off - x.cells.toList.length) = j := by simp; omega
          rw [e]; simp [hj]
    split at hk
    · have := (List.getElem?_eq_some_iff.1 hk).1
      rw [hget k (by omega), if_pos (by assumption)]
      exact hcells k p hk
    · split at hk
      · rename_i a b
        rw [hget k (by omega), if_neg a, if_pos b]
        exact hcell _ p hk
      · rename_i a b
        have := (List.getElem?_eq_some_iff.1 hk).1
        rw [hget k (by omega), if_neg a, if_neg b]
        exact hcells k p hk
end
end Go.Vm
