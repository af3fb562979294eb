/- What is handed over to the laws of layer 25 reads as rows, multipliers, certificates. -/
import Derived.Test.YtajgclnahfmfmaaN5
import Derived.Test.YtajgclnahfmfmaaVmH
set_option linter.unusedSimpArgs false
namespace Go.Vm
open Go Go.Proofs
namespace Ytajgclnahfmfmaa
open Go.Proofs.Try

abbrev tI64 : TypeId := 2
theorem typed_int {t : TypeId} {k : IntKind} {xs : List Tr} (hu : Try.prog.underlying t = some (.int k)) (h : Typed Try.prog t xs) : ∃ n, xs = [.int k n] := by
  cases h with
  | int h => rw [hu] at h; injection h with h; injection h with h; subst h; exact ⟨_, rfl⟩
  | bool h => rw [hu] at h; cases h
  | str h => rw [hu] at h; cases h
  | snil h => rw [hu] at h; cases h
  | sl h => rw [hu] at h; cases h
  | struct h => rw [hu] at h; cases h
theorem typed_bool {t : TypeId} {xs : List Tr} (hu : Try.prog.underlying t = some .bool) (h : Typed Try.prog t xs) : ∃ b, xs = [.bool b] := by
  cases h with
  | bool h => exact ⟨_, rfl⟩
  | int h => rw [hu] at h; cases h
  | str h => rw [hu] at h; cases h
  | snil h => rw [hu] at h; cases h
  | sl h => rw [hu] at h; cases h
  | struct h => rw [hu] at h; cases h
theorem typed_sl {α : Type} {t e : TypeId} {xs : List Tr} (hu : Try.prog.underlying t = some (.slice e)) (f : α → Tr) (hel : ∀ x, Typed Try.prog e x.cells → (aggB Try.prog e = some true → x = .agg x.cells) → x.cells.length = Try.prog.cellsOf e → (aggB Try.prog e = some false → x.cells = [x]) → ∃ a, x = f a) (h : Typed Try.prog t xs) : ∃ nn l, xs = [.sl nn (List.map f l)] := by
  cases h with
  | snil h => exact ⟨false, [], rfl⟩
  | @sl _ e' l h h1 h2 h3 h4 =>
    rw [hu] at h; injection h with h; injection h with h; subst h
    have : ∃ q : List α, l = q.map f := by
      induction l with
      | nil => exact ⟨[], rfl⟩
      | cons x l ih =>
        obtain ⟨q, rfl⟩ := ih (fun y hy => h1 y (by simp [hy])) (fun y hy => h2 y (by simp [hy])) (fun y hy => h3 y (by simp [hy])) (fun y hy => h4 y (by simp [hy]))
        obtain ⟨a, rfl⟩ := hel x (h1 x (by simp)) (h2 x (by simp)) (h3 x (by simp)) (h4 x (by simp))
        exact ⟨a :: q, rfl⟩
    obtain ⟨q, rfl⟩ := this
    exact ⟨true, q, rfl⟩
  | bool h => rw [hu] at h; cases h
  | int h => rw [hu] at h; cases h
  | str h => rw [hu] at h; cases h
  | struct h => rw [hu] at h; cases h
theorem typed_struct {t : TypeId} {fs : Array Field} {xs : List Tr} (hu : Try.prog.underlying t = some (.struct fs)) (h : Typed Try.prog t xs) : xs.length = Try.prog.cellsOf t ∧ ∀ f ∈ fs.toList, Typed Try.prog f.type ((xs.drop f.offset).take (Try.prog.cellsOf f.type)) := by
  cases h with
  | struct h h1 h2 => rw [hu] at h; injection h with h; injection h with h; subst h; exact ⟨h1, h2⟩
  | bool h => rw [hu] at h; cases h
  | int h => rw [hu] at h; cases h
  | str h => rw [hu] at h; cases h
  | snil h => rw [hu] at h; cases h
  | sl h => rw [hu] at h; cases h
theorem typed_ints {t : TypeId} {xs : List Tr} (hu : Try.prog.underlying t = some (.slice tI64)) (h : Typed Try.prog t xs) : ∃ nn l, xs = [.sl nn (ints l)] := by
  refine typed_sl hu (Tr.int .i64) (fun x h1 _ _ h4 => ?_) h
  obtain ⟨n, hn⟩ := typed_int (k := .i64) (by kernel_rfl) h1
  have := h4 (by kernel_rfl)
  rw [hn] at this
  injection this with h5
  exact ⟨n, h5.symm⟩
theorem len2 {xs : List Tr} (h : xs.length = 2) : ∃ a b, xs = [a, b] := by
  match xs, h with
  | [a, b], _ => exact ⟨a, b, rfl⟩
theorem len3 {xs : List Tr} (h : xs.length = 3) : ∃ a b c, xs = [a, b, c] := by
  match xs, h with
  | [a, b, c], _ => exact ⟨a, b, c, rfl⟩
theorem len4 {xs : List Tr} (h : xs.length = 4) : ∃ a b c d, xs = [a, b, c, d] := by
  match xs, h with
  | [a, b, c, d], _ => exact ⟨a, b, c, d, rfl⟩
theorem typed_row {xs : List Tr} (h : Typed Try.prog 40 xs) : ∃ r : Row, .agg xs = r.tr := by
  obtain ⟨hl, hf⟩ := typed_struct Try.underlying40 h
  obtain ⟨a, b, rfl⟩ := len2 (hl.trans (by kernel_rfl))
  simp only [List.mem_cons, List.not_mem_nil, or_false, forall_eq_or_imp, forall_eq] at hf
  simp only [go_sem, Nat.reduceBEq, Nat.reduceAdd, Nat.reduceMul, Nat.reduceSub, Nat.reduceLeDiff, Nat.reduceLT, Nat.reduceEqDiff, Int.reduceEq, Int.reduceBEq, Int.reduceBNe, Int.reduceLT, Int.reduceLE] at hf
  obtain ⟨h1, h2⟩ := hf
  obtain ⟨nn, l, e1⟩ := typed_ints (by kernel_rfl) h1
  obtain ⟨n, e2⟩ := typed_int (k := .i64) (by kernel_rfl) h2
  injection e1 with e1; injection e2 with e2
  subst e1; subst e2
  exact ⟨⟨nn, l, n⟩, rfl⟩
theorem typed_rows {t : TypeId} {xs : List Tr} (hu : Try.prog.underlying t = some (.slice 40)) (h : Typed Try.prog t xs) : ∃ nn l, xs = [.sl nn (List.map Row.tr l)] := by
  refine typed_sl hu Row.tr (fun x h1 h2 _ _ => ?_) h
  obtain ⟨r, hr⟩ := typed_row h1
  exact ⟨r, (h2 (by kernel_rfl)).trans hr⟩
theorem typed_u64 {t : TypeId} {xs : List Tr} (hu : Try.prog.underlying t = some (.int .u64)) (h : Typed Try.prog t xs) : ∃ m : Nat, m < 18446744073709551616 ∧ xs = [u64T m] := by
  cases h with
  | int h hw =>
    rename_i k n
    rw [hu] at h; injection h with h; injection h with h; subst h
    simp [Lit.wf, IntKind.min, IntKind.max, IntKind.bits, IntKind.signed] at hw
    exact ⟨n.toNat, by omega, by simp only [u64T]; rw [Int.toNat_of_nonneg (by omega)]⟩
  | bool h => rw [hu] at h; cases h
  | str h => rw [hu] at h; cases h
  | snil h => rw [hu] at h; cases h
  | sl h => rw [hu] at h; cases h
  | struct h => rw [hu] at h; cases h
theorem typed_u64s {t : TypeId} {xs : List Tr} (hu : Try.prog.underlying t = some (.slice 64)) (h : Typed Try.prog t xs) : ∃ nn l, (∀ m ∈ l, m < 18446744073709551616) ∧ (nn = false → l = []) ∧ xs = [.sl nn (List.map u64T l)] := by
  have hnil : ∀ nn (l : List Tr), Typed Try.prog t [.sl nn l] → nn = false → l = [] := by
    intro nn l hh he
    cases hh with
    | snil h => rfl
    | sl h => cases he
    | struct h => rw [hu] at h; cases h
  obtain ⟨nn, l, e⟩ := typed_sl (α := {m : Nat // m < 18446744073709551616}) hu (fun m => u64T m.1) (fun x h1 _ _ h4 => by
    obtain ⟨m, hm, hx⟩ := typed_u64 (by kernel_rfl) h1
    have := h4 (by kernel_rfl)
    rw [hx] at this
    injection this with h5
    exact ⟨⟨m, hm⟩, h5.symm⟩) h
  refine ⟨nn, l.map Subtype.val, fun m hm => ?_, fun hn => ?_, ?_⟩
  · obtain ⟨y, _, rfl⟩ := List.mem_map.1 hm
    exact y.2
  · have := hnil nn _ (e ▸ h) hn
    rw [List.map_eq_nil_iff] at this
    rw [this]; rfl
  · rw [e, List.map_map]; rfl
theorem typed_cert {xs : List Tr} (h : Typed Try.prog 66 xs) : ∃ f : Cert, f.scale < 18446744073709551616 ∧ (∀ m ∈ f.ms, m < 18446744073709551616) ∧ (f.mnn = false → f.ms = []) ∧ .agg xs = f.tr := by
  obtain ⟨hl, hf⟩ := typed_struct Try.underlying66 h
  obtain ⟨a, b, rfl⟩ := len2 (hl.trans (by kernel_rfl))
  simp only [List.mem_cons, List.not_mem_nil, or_false, forall_eq_or_imp, forall_eq] at hf
  simp only [go_sem, Nat.reduceBEq, Nat.reduceAdd, Nat.reduceMul, Nat.reduceSub, Nat.reduceLeDiff, Nat.reduceLT, Nat.reduceEqDiff, Int.reduceEq, Int.reduceBEq, Int.reduceBNe, Int.reduceLT, Int.reduceLE] at hf
  obtain ⟨h1, h2⟩ := hf
  obtain ⟨m, hm, e1⟩ := typed_u64 (by kernel_rfl) h1
  obtain ⟨nn, l, h3, h4, e2⟩ := typed_u64s (by kernel_rfl) h2
  injection e1 with e1; injection e2 with e2
  subst e1; subst e2
  exact ⟨⟨m, nn, l⟩, hm, h3, h4, rfl⟩
end Ytajgclnahfmfmaa
end Go.Vm
