import Derived.Test.YtihgdplbehempaaGreatMD6
import Derived.Test.YtihgdplbehempaaGreatRows
import Derived.WalkKit
import Derived.ProofKit
import Derived.OpenShut
import Derived.ShutString
import Derived.ChangeOld
import Derived.Below
import Derived.SizedLaws
namespace Go.Proofs.YtihgdplbehempaaGreat.rankDecreases
open Go.ChangeShapes Go.WideShapes Go.ChangeAt Go.RowKit
set_option linter.unusedVariables false
open Go.Vm Go.Vm.ama
theorem own : ownKnob Tryz.prog.godebug = none := lb.own
theorem laidOut : laidOutB Tryz.prog = true := lb.laidOut
set_option maxRecDepth 100000 in
theorem lifted (os : Os) (started : os.Started) (H : Type) (enc : TypeId × Value → H) :
    ReturnsInHanded {} Tryz.checked os 15 .any (Rows.rankDecreasesSpec.pre6 enc Tryz.prog Tryz.f15 Rows.rankDecreasesRow.domain false) (Rows.rankDecreasesSpec.post enc Tryz.prog Tryz.f15 false true false false) := by
  refine returnsInHanded_of_change_sized (C := Tryz.checked) own started (by kernel_rfl) Tryz.func15
    (ChangeSpec.witness6 (enc := enc) (C := Tryz.checked) false ⟨#[], #[.agg #[.int .i64 0, .int .i64 0, .int .i64 0, .slice none 0 0], .agg #[.slice none 0 0], .agg #[.int .i64 0, .slice none 0 0], .slice none 0 0, .slice none 0 0], []⟩ 8 (by kernel_rfl) (by kernel_rfl) (by kernel_rfl) (by kernel_rfl)) ?_
  intro W base args ds gs before hval0 hW hcnd hsz0 _
  have hval : ∀ (j : Nat) t v, Tryz.f15.params[j]? = some t → args[j]? = some v → Value.okWide Tryz.prog W .any base t v := hval0
  have hW' := hW
  obtain ⟨p, q, hA0, hV, rfl, hfz, hnd⟩ := hW
  have hA : DataW.TrodAll enc Tryz.prog W 0 (fun _ => true) true Tryz.f15.params.toList args.toList ds p := hA0
  rw [Tryz.params15] at hA hval
  obtain ⟨v0, vs0, d0, ds0, p0, q0, hargs, rfl, rfl, h0, r0⟩ := trodAll_cons hA
  obtain ⟨v1, vs1, d1, ds1, p1, q1, rfl, rfl, rfl, h1, r1⟩ := trodAll_cons r0
  obtain ⟨v2, vs2, d2, ds2, p2, q2, rfl, rfl, rfl, h2, r2⟩ := trodAll_cons r1
  obtain ⟨v3, vs3, d3, ds3, p3, q3, rfl, rfl, rfl, h3, r3⟩ := trodAll_cons r2
  obtain ⟨v4, vs4, d4, ds4, p4, q4, rfl, rfl, rfl, h4, r4⟩ := trodAll_cons r3
  obtain ⟨rfl, rfl, rfl⟩ := trodAll_nil r4
  obtain rfl : args = #[v0, v1, v2, v3, v4] := by cases args; simp_all
  obtain ⟨rfl, rfl⟩ := trodVars_none hV
  have k0 := h0
  have lt0 : ∀ x ∈ p0, x.block < W.heap.size := by obtain ⟨m, hm⟩ := k0; exact DataW.trod_lt m _ _ _ hm
  have ok0 := hval 0 56 v0 rfl rfl
  unfold Value.okWide at ok0
  rw [Tryz.underlying56] at ok0
  obtain ⟨c0, rfl, _⟩ := ok0
  obtain ⟨x0, ty0, rd0⟩ := arg_agg (P := Tryz.prog) (m := 20) h0 (by kernel_rfl)
  obtain ⟨a0, e0⟩ := typed_flow ty0
  rw [e0] at rd0
  have k1 := h1
  have lt1 : ∀ x ∈ p1, x.block < W.heap.size := by obtain ⟨m, hm⟩ := k1; exact DataW.trod_lt m _ _ _ hm
  have ok1 := hval 1 80 v1 rfl rfl
  unfold Value.okWide at ok1
  rw [Tryz.underlying80] at ok1
  obtain ⟨c1, rfl, _⟩ := ok1
  obtain ⟨x1, ty1, rd1⟩ := arg_agg (P := Tryz.prog) (m := 20) h1 (by kernel_rfl)
  obtain ⟨a1, ha1, e1⟩ := typed_ranking ty1
  rw [e1] at rd1
  have k2 := h2
  have lt2 : ∀ x ∈ p2, x.block < W.heap.size := by obtain ⟨m, hm⟩ := k2; exact DataW.trod_lt m _ _ _ hm
  have ok2 := hval 2 58 v2 rfl rfl
  unfold Value.okWide at ok2
  rw [Tryz.underlying58] at ok2
  obtain ⟨c2, rfl, _⟩ := ok2
  obtain ⟨x2, ty2, rd2⟩ := arg_agg (P := Tryz.prog) (m := 20) h2 (by kernel_rfl)
  obtain ⟨a2, e2⟩ := typed_state ty2
  rw [e2] at rd2
  have k3 := h3
  have lt3 : ∀ x ∈ p3, x.block < W.heap.size := by obtain ⟨m, hm⟩ := k3; exact DataW.trod_lt m _ _ _ hm
  have ok3 := hval 3 59 v3 rfl rfl
  obtain ⟨ad3, len3, cap3, rfl⟩ := okWide_slice Tryz.underlying59 ok3
  obtain ⟨x3, ty3, rd3⟩ := arg_one (P := Tryz.prog) (m := 20) h3 (by kernel_rfl) rfl
  obtain ⟨nn3, a3, e3⟩ := typed_inti (by kernel_rfl) ty3
  injection e3 with e3
  subst e3
  have k4 := h4
  have lt4 : ∀ x ∈ p4, x.block < W.heap.size := by obtain ⟨m, hm⟩ := k4; exact DataW.trod_lt m _ _ _ hm
  have ok4 := hval 4 35 v4 rfl rfl
  obtain ⟨ad4, len4, cap4, rfl⟩ := okWide_slice Tryz.underlying35 ok4
  obtain ⟨x4, ty4, rd4⟩ := arg_one (P := Tryz.prog) (m := 20) h4 (by kernel_rfl) rfl
  obtain ⟨nn4, a4, e4⟩ := typed_ints (by kernel_rfl) ty4
  injection e4 with e4
  subst e4
  refine ((RankDecreases_w a0 a1 a2 nn3 a3 nn4 a4 ha1).run W (fun _ => False) _ (fun _ h => h.elim) ⟨rfl, fun i x hx => ?_⟩).mono fun e W' ⟨v, he, hr, bel⟩ => ?_
  · match i, hx with
    | 0, hx => exact (Option.some.inj hx) ▸ rd0
    | 1, hx => exact (Option.some.inj hx) ▸ rd1
    | 2, hx => exact (Option.some.inj hx) ▸ rd2
    | 3, hx => exact (Option.some.inj hx) ▸ rd3
    | 4, hx => exact (Option.some.inj hx) ▸ rd4
    | n + 5, hx => exact absurd hx (by simp)
  · subst he
    cases hr
    exact ⟨_, rfl, _, _, _, [], _, [], hW', trodAll_mk1 (shut_bool Tryz.underlying4 _), (trodAll_cons_mk (Below.trod laidOut (by kernel_rfl) (of_decide_eq_true (by kernel_rfl)) k0 bel lt0) (trodAll_cons_mk (Below.trod laidOut (by kernel_rfl) (of_decide_eq_true (by kernel_rfl)) k1 bel lt1) (trodAll_cons_mk (Below.trod laidOut (by kernel_rfl) (of_decide_eq_true (by kernel_rfl)) k2 bel lt2) (trodAll_cons_mk (Below.trod laidOut (by kernel_rfl) (of_decide_eq_true (by kernel_rfl)) k3 bel lt3) (trodAll_cons_mk (Below.trod laidOut (by kernel_rfl) (of_decide_eq_true (by kernel_rfl)) k4 bel lt4) trodAll_mk0))))), rfl, bel.frame _, fun h => by cases h⟩
set_option maxHeartbeats 8000000 in
theorem closed : joinedFacts Tryz.prog 15 Tryz.f15 Rows.rankDecreasesSpec Rows.rankDecreasesRow = true := (lb.and_t (lb.and_t (lb.and_t (lb.and_t (lb.and_t (lb.and_t (lb.and_t (lb.and_t (lb.and_t (lb.and_t (lb.and_t (lb.and_t (lb.and_t (lb.and_t (lb.and_t (lb.and_t (lb.and_t (lb.and_t (lb.and_t (lb.and_t (lb.and_t (lb.and_t (lb.and_t (lb.and_t (lb.and_t (lb.and_t (lb.and_t (lb.and_t (lb.and_t (lb.and_t (lb.and_t (by as_aux_lemma => kernel_rfl) lb.laidOut) lb.rowed) (by as_aux_lemma => kernel_rfl)) (by as_aux_lemma => kernel_rfl)) (by as_aux_lemma => kernel_rfl)) (by as_aux_lemma => kernel_rfl)) (by as_aux_lemma => kernel_rfl)) (by as_aux_lemma => kernel_rfl)) (by as_aux_lemma => kernel_rfl)) (by as_aux_lemma => kernel_rfl)) (by as_aux_lemma => kernel_rfl)) (by as_aux_lemma => kernel_rfl)) (by as_aux_lemma => kernel_rfl)) (by as_aux_lemma => kernel_rfl)) (by as_aux_lemma => kernel_rfl)) (by as_aux_lemma => kernel_rfl)) (by as_aux_lemma => kernel_rfl)) (by as_aux_lemma => kernel_rfl)) (by as_aux_lemma => kernel_rfl)) (by as_aux_lemma => kernel_rfl)) (by as_aux_lemma => kernel_rfl)) lb.keys) (by as_aux_lemma => kernel_rfl)) lb.heard) lb.enters) lb.lifts) lb.made) (by as_aux_lemma => kernel_rfl)) (by as_aux_lemma => kernel_rfl)) (by as_aux_lemma => kernel_rfl)) (by as_aux_lemma => kernel_rfl))
set_option maxHeartbeats 8000000 in
theorem over : Rows.rankDecreasesRow.holds Tryz.pinned (OpenSpec.ofChange Rows.rankDecreasesSpec) :=
  OpenClaim.holds_of_wide 15 Tryz.f15 rfl rfl rfl rfl rfl rfl rfl ⟨rfl, rfl, rfl, rfl, rfl⟩ rfl rfl rfl rfl rfl (by as_aux_lemma => kernel_rfl) Tryz.func15 closed
    (of_decide_eq_true (by as_aux_lemma => kernel_rfl)) (by as_aux_lemma => unfold Func.isWrapper; first | (rw [if_pos (by decide +kernel)]; kernel_rfl) | (rw [if_neg (by decide +kernel)]; exact ⟨rfl, rfl⟩))
    (fun os started H enc _ => lifted os started H enc)
theorem proved : Rows.RankDecreasesSaid := over
#print axioms proved
end Go.Proofs.YtihgdplbehempaaGreat.rankDecreases
namespace Go.Proofs.YtihgdplbehempaaGreat
/-- The row. -/
theorem rankDecreases_holds : Rows.RankDecreasesSaid := rankDecreases.proved
end Go.Proofs.YtihgdplbehempaaGreat
