/- The row of the law RunSame. -/
import Derived.Test.YtajgclnahfmfmaaRows
import Derived.Test.YtajgclnahfmfmaaR7
import Derived.WalkKit
import Derived.ProofKit
import Derived.OpenShut
import Derived.ShutString
import Derived.ChangeOld
import Derived.Below
import Derived.SizedLaws
namespace Go.Proofs.Ytajgclnahfmfmaa.runSame
open Go.ChangeShapes Go.WideShapes Go.ChangeAt Go.RowKit
set_option linter.unusedVariables false
open Go.Vm Go.Vm.Ytajgclnahfmfmaa
theorem own : ownKnob Try.prog.godebug = none := by kernel_rfl
theorem laidOut : laidOutB Try.prog = true := by kernel_rfl
set_option maxRecDepth 100000 in
theorem lifted (os : Os) (started : os.Started) (H : Type) (enc : TypeId × Value → H) :
    ReturnsInHanded {} Try.checked os 8 .any (Rows.runSameSpec.pre6 enc Try.prog Try.f8 Rows.runSameRow.domain false) (Rows.runSameSpec.post enc Try.prog Try.f8 false true false false) := by
  refine returnsInHanded_of_change_sized (C := Try.checked) own started (by kernel_rfl) Try.func8
    (ChangeSpec.witness6 (enc := enc) (C := Try.checked) false ⟨#[], #[.agg #[.int .i64 0, .int .i64 0, .int .i64 0, .slice none 0 0], .agg #[.int .i64 0, .slice none 0 0], .slice none 0 0, .slice none 0 0], []⟩ 8 (by kernel_rfl) (by kernel_rfl) (by kernel_rfl) (by kernel_rfl)) ?_
  intro W base args ds gs before hval0 hW hcnd hsz0 _
  have hval : ∀ (j : Nat) t v, Try.f8.params[j]? = some t → args[j]? = some v → Value.okWide Try.prog W .any base t v := hval0
  have hW' := hW
  obtain ⟨p, q, hA0, hV, rfl, hfz, hnd⟩ := hW
  have hA : DataW.TrodAll enc Try.prog W 0 (fun _ => true) true Try.f8.params.toList args.toList ds p := hA0
  rw [Try.params8] at hA hval
  obtain ⟨v0, vs0, d0, ds0, p0, q0, hargs, rfl, rfl, h0, r0⟩ := trodAll_cons hA
  obtain ⟨v1, vs1, d1, ds1, p1, q1, rfl, rfl, rfl, h1, r1⟩ := trodAll_cons r0
  obtain ⟨v2, vs2, d2, ds2, p2, q2, rfl, rfl, rfl, h2, r2⟩ := trodAll_cons r1
  obtain ⟨v3, vs3, d3, ds3, p3, q3, rfl, rfl, rfl, h3, r3⟩ := trodAll_cons r2
  obtain ⟨rfl, rfl, rfl⟩ := trodAll_nil r3
  obtain rfl : args = #[v0, v1, v2, v3] := by cases args; simp_all
  obtain ⟨rfl, rfl⟩ := trodVars_none hV
  have k0 := h0
  have lt0 : ∀ x ∈ p0, x.block < W.heap.size := by obtain ⟨m, hm⟩ := k0; exact DataW.trod_lt m _ _ _ hm
  have ok0 := hval 0 24 v0 rfl rfl
  unfold Value.okWide at ok0
  rw [Try.underlying24] at ok0
  obtain ⟨c0, rfl, _⟩ := ok0
  obtain ⟨x0, ty0, rd0⟩ := arg_agg (P := Try.prog) (m := 20) h0 (by kernel_rfl)
  obtain ⟨a0, e0⟩ := typed_flow ty0
  rw [e0] at rd0
  have k1 := h1
  have lt1 : ∀ x ∈ p1, x.block < W.heap.size := by obtain ⟨m, hm⟩ := k1; exact DataW.trod_lt m _ _ _ hm
  have ok1 := hval 1 27 v1 rfl rfl
  unfold Value.okWide at ok1
  rw [Try.underlying27] at ok1
  obtain ⟨c1, rfl, _⟩ := ok1
  obtain ⟨x1, ty1, rd1⟩ := arg_agg (P := Try.prog) (m := 20) h1 (by kernel_rfl)
  obtain ⟨a1, e1⟩ := typed_state ty1
  rw [e1] at rd1
  have k2 := h2
  have lt2 : ∀ x ∈ p2, x.block < W.heap.size := by obtain ⟨m, hm⟩ := k2; exact DataW.trod_lt m _ _ _ hm
  have ok2 := hval 2 32 v2 rfl rfl
  obtain ⟨ad2, len2, cap2, rfl⟩ := okWide_slice Try.underlying32 ok2
  obtain ⟨x2, ty2, rd2⟩ := arg_one (P := Try.prog) (m := 20) h2 (by kernel_rfl) rfl
  obtain ⟨nn2, a2, e2⟩ := typed_inti (by kernel_rfl) ty2
  injection e2 with e2
  subst e2
  have k3 := h3
  have lt3 : ∀ x ∈ p3, x.block < W.heap.size := by obtain ⟨m, hm⟩ := k3; exact DataW.trod_lt m _ _ _ hm
  have ok3 := hval 3 25 v3 rfl rfl
  obtain ⟨ad3, len3, cap3, rfl⟩ := okWide_slice Try.underlying25 ok3
  obtain ⟨x3, ty3, rd3⟩ := arg_one (P := Try.prog) (m := 20) h3 (by kernel_rfl) rfl
  obtain ⟨nn3, a3, e3⟩ := typed_ints (by kernel_rfl) ty3
  injection e3 with e3
  subst e3
  refine ((RunSame_d a0 a1 nn2 nn3 a2 a3).run W (fun _ => False) _ (fun _ h => h.elim) ⟨rfl, fun i x hx => ?_⟩).mono fun e W' ⟨v, he, hr, bel⟩ => ?_
  · match i, hx with
    | 0, hx => exact (Option.some.inj hx) ▸ rd0
    | 1, hx => exact (Option.some.inj hx) ▸ rd1
    | 2, hx => exact (Option.some.inj hx) ▸ rd2
    | 3, hx => exact (Option.some.inj hx) ▸ rd3
    | n + 4, hx => exact absurd hx (by simp)
  · subst he
    cases hr
    exact ⟨_, rfl, _, _, _, [], _, [], hW', trodAll_mk1 (shut_bool Try.underlying4 _), (trodAll_cons_mk (Below.trod laidOut (by kernel_rfl) (of_decide_eq_true (by kernel_rfl)) k0 bel lt0) (trodAll_cons_mk (Below.trod laidOut (by kernel_rfl) (of_decide_eq_true (by kernel_rfl)) k1 bel lt1) (trodAll_cons_mk (Below.trod laidOut (by kernel_rfl) (of_decide_eq_true (by kernel_rfl)) k2 bel lt2) (trodAll_cons_mk (Below.trod laidOut (by kernel_rfl) (of_decide_eq_true (by kernel_rfl)) k3 bel lt3) trodAll_mk0)))), rfl, bel.frame _, fun h => by cases h⟩
theorem over : Rows.runSameRow.holds Try.pinned (OpenSpec.ofChange Rows.runSameSpec) :=
  OpenClaim.holds_of_wide 8 Try.f8 rfl rfl rfl rfl rfl rfl rfl ⟨rfl, rfl, rfl, rfl, rfl⟩ rfl rfl rfl rfl rfl (by kernel_rfl) Try.func8 (by kernel_rfl)
    (of_decide_eq_true (by kernel_rfl)) (by unfold Func.isWrapper; first | (rw [if_pos (by decide +kernel)]; kernel_rfl) | (rw [if_neg (by decide +kernel)]; exact ⟨rfl, rfl⟩))
    (fun os started H enc _ => lifted os started H enc)
theorem proved : Rows.RunSameSaid := over
#print axioms proved
end Go.Proofs.Ytajgclnahfmfmaa.runSame
namespace Go.Proofs.Ytajgclnahfmfmaa
/-- The row. -/
theorem runSame_holds : Rows.RunSameSaid := runSame.proved
end Go.Proofs.Ytajgclnahfmfmaa
