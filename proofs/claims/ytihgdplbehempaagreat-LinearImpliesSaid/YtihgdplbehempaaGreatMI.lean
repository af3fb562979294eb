import Derived.Test.YtihgdplbehempaaGreatMI7
import Derived.Test.YtihgdplbehempaaGreatRows
import Derived.WalkKit
import Derived.ProofKit
import Derived.OpenShut
import Derived.ShutString
import Derived.ChangeOld
import Derived.Below
import Derived.SizedLaws
namespace Go.Proofs.YtihgdplbehempaaGreat.linearImplies
open Go.ChangeShapes Go.WideShapes Go.ChangeAt Go.RowKit
set_option linter.unusedVariables false
open Go.Vm Go.Vm.YtihgdplbehempaaGreat
theorem own : ownKnob Tryz.prog.godebug = none := lb.own
theorem laidOut : laidOutB Tryz.prog = true := lb.laidOut
set_option maxRecDepth 100000 in
theorem lifted (os : Os) (started : os.Started) (H : Type) (enc : TypeId × Value → H) :
    ReturnsInHanded {} Tryz.checked os 4 .any (Rows.linearImpliesSpec.pre6 enc Tryz.prog Tryz.f4 Rows.linearImpliesRow.domain false) (Rows.linearImpliesSpec.post enc Tryz.prog Tryz.f4 false true false false) := by
  refine returnsInHanded_of_change_sized (C := Tryz.checked) own started (by kernel_rfl) Tryz.func4
    (ChangeSpec.witness6 (enc := enc) (C := Tryz.checked) false ⟨#[], #[.int .i64 0, .slice none 0 0, .agg #[.slice none 0 0, .int .i64 0]], []⟩ 8 (by kernel_rfl) (by kernel_rfl) (by kernel_rfl) (by kernel_rfl)) ?_
  intro W base args ds gs before hval0 hW hcnd hsz0 _
  have hval : ∀ (j : Nat) t v, Tryz.f4.params[j]? = some t → args[j]? = some v → Value.okWide Tryz.prog W .any base t v := hval0
  have hW' := hW
  obtain ⟨p, q, hA0, hV, rfl, hfz, hnd⟩ := hW
  have hA : DataW.TrodAll enc Tryz.prog W 0 (fun _ => true) true Tryz.f4.params.toList args.toList ds p := hA0
  rw [Tryz.params4] at hA hval
  obtain ⟨v0, vs0, d0, ds0, p0, q0, hargs, rfl, rfl, h0, r0⟩ := trodAll_cons hA
  obtain ⟨v1, vs1, d1, ds1, p1, q1, rfl, rfl, rfl, h1, r1⟩ := trodAll_cons r0
  obtain ⟨v2, vs2, d2, ds2, p2, q2, rfl, rfl, rfl, h2, r2⟩ := trodAll_cons r1
  obtain ⟨rfl, rfl, rfl⟩ := trodAll_nil r2
  obtain rfl : args = #[v0, v1, v2] := by cases args; simp_all
  obtain ⟨rfl, rfl⟩ := trodVars_none hV
  have k0 := h0
  have lt0 : ∀ x ∈ p0, x.block < W.heap.size := by obtain ⟨m, hm⟩ := k0; exact DataW.trod_lt m _ _ _ hm
  have ok0 := hval 0 3 v0 rfl rfl
  obtain ⟨n0, rfl, _, _, _⟩ := open_int Tryz.underlying3 ok0 h0
  have rd0 : Reads W (fun _ => False) (.int .i64 n0) (.int .i64 n0) := .int _ _
  have k1 := h1
  have lt1 : ∀ x ∈ p1, x.block < W.heap.size := by obtain ⟨m, hm⟩ := k1; exact DataW.trod_lt m _ _ _ hm
  have ok1 := hval 1 22 v1 rfl rfl
  obtain ⟨ad1, len1, cap1, rfl⟩ := okWide_slice Tryz.underlying22 ok1
  obtain ⟨x1, ty1, rd1⟩ := arg_one (P := Tryz.prog) (m := 20) h1 (by kernel_rfl) rfl
  obtain ⟨nn1, a1, e1⟩ := typed_rows (by kernel_rfl) ty1
  injection e1 with e1
  subst e1
  have z1 : a1.length ≤ 4398046511103 := by
    have e0 := reads_len rd1
    rw [List.length_map] at e0
    rcases arg_len (e := 37) (by kernel_rfl) h1 with e1 | ⟨el, sp, rfl, e1⟩
    · omega
    · have hr : (el.length + sp.length) * Tryz.prog.bytesOf 37 ≤ reachBytes := sized_slice hsz0 (j := 1) (t := 22) (e := 37) rfl rfl (by kernel_rfl)
      rw [show Tryz.prog.bytesOf 37 = 32 by kernel_rfl] at hr
      simp only [reachBytes] at hr
      omega
  have k2 := h2
  have lt2 : ∀ x ∈ p2, x.block < W.heap.size := by obtain ⟨m, hm⟩ := k2; exact DataW.trod_lt m _ _ _ hm
  have ok2 := hval 2 37 v2 rfl rfl
  unfold Value.okWide at ok2
  rw [Tryz.underlying37] at ok2
  obtain ⟨c2, rfl, _⟩ := ok2
  obtain ⟨x2, ty2, rd2⟩ := arg_agg (P := Tryz.prog) (m := 20) h2 (by kernel_rfl)
  obtain ⟨a2, e2⟩ := typed_row ty2
  rw [e2] at rd2
  refine ((LinearImplies_w n0 nn1 a1 a2 z1).run W (fun _ => False) _ (fun _ h => h.elim) ⟨rfl, fun i x hx => ?_⟩).mono fun e W' ⟨v, he, hr, bel⟩ => ?_
  · match i, hx with
    | 0, hx => exact (Option.some.inj hx) ▸ rd0
    | 1, hx => exact (Option.some.inj hx) ▸ rd1
    | 2, hx => exact (Option.some.inj hx) ▸ rd2
    | n + 3, hx => exact absurd hx (by simp)
  · subst he
    cases hr
    exact ⟨_, rfl, _, _, _, [], _, [], hW', trodAll_mk1 (shut_bool Tryz.underlying4 _), (trodAll_cons_mk (Below.trod laidOut (by kernel_rfl) (of_decide_eq_true (by kernel_rfl)) k0 bel lt0) (trodAll_cons_mk (Below.trod laidOut (by kernel_rfl) (of_decide_eq_true (by kernel_rfl)) k1 bel lt1) (trodAll_cons_mk (Below.trod laidOut (by kernel_rfl) (of_decide_eq_true (by kernel_rfl)) k2 bel lt2) trodAll_mk0))), rfl, bel.frame _, fun h => by cases h⟩
set_option maxHeartbeats 8000000 in
theorem closed : joinedFacts Tryz.prog 4 Tryz.f4 Rows.linearImpliesSpec Rows.linearImpliesRow = true := (lb.and_t (lb.and_t (lb.and_t (lb.and_t (lb.and_t (lb.and_t (lb.and_t (lb.and_t (lb.and_t (lb.and_t (lb.and_t (lb.and_t (lb.and_t (lb.and_t (lb.and_t (lb.and_t (lb.and_t (lb.and_t (lb.and_t (lb.and_t (lb.and_t (lb.and_t (lb.and_t (lb.and_t (lb.and_t (lb.and_t (lb.and_t (lb.and_t (lb.and_t (lb.and_t (lb.and_t (by as_aux_lemma => kernel_rfl) lb.laidOut) lb.rowed) (by as_aux_lemma => kernel_rfl)) (by as_aux_lemma => kernel_rfl)) (by as_aux_lemma => kernel_rfl)) (by as_aux_lemma => kernel_rfl)) (by as_aux_lemma => kernel_rfl)) (by as_aux_lemma => kernel_rfl)) (by as_aux_lemma => kernel_rfl)) (by as_aux_lemma => kernel_rfl)) (by as_aux_lemma => kernel_rfl)) (by as_aux_lemma => kernel_rfl)) (by as_aux_lemma => kernel_rfl)) (by as_aux_lemma => kernel_rfl)) (by as_aux_lemma => kernel_rfl)) (by as_aux_lemma => kernel_rfl)) (by as_aux_lemma => kernel_rfl)) (by as_aux_lemma => kernel_rfl)) (by as_aux_lemma => kernel_rfl)) (by as_aux_lemma => kernel_rfl)) (by as_aux_lemma => kernel_rfl)) lb.keys) (by as_aux_lemma => kernel_rfl)) lb.heard) lb.enters) lb.lifts) lb.made) (by as_aux_lemma => kernel_rfl)) (by as_aux_lemma => kernel_rfl)) (by as_aux_lemma => kernel_rfl)) (by as_aux_lemma => kernel_rfl))
set_option maxHeartbeats 8000000 in
theorem over : Rows.linearImpliesRow.holds Tryz.pinned (OpenSpec.ofChange Rows.linearImpliesSpec) :=
  OpenClaim.holds_of_wide 4 Tryz.f4 rfl rfl rfl rfl rfl rfl rfl ⟨rfl, rfl, rfl, rfl, rfl⟩ rfl rfl rfl rfl rfl (by as_aux_lemma => kernel_rfl) Tryz.func4 closed
    (of_decide_eq_true (by as_aux_lemma => kernel_rfl)) (by as_aux_lemma => unfold Func.isWrapper; first | (rw [if_pos (by decide +kernel)]; kernel_rfl) | (rw [if_neg (by decide +kernel)]; exact ⟨rfl, rfl⟩))
    (fun os started H enc _ => lifted os started H enc)
theorem proved : Rows.LinearImpliesSaid := over
#print axioms proved
end Go.Proofs.YtihgdplbehempaaGreat.linearImplies
namespace Go.Proofs.YtihgdplbehempaaGreat
/-- The row. -/
theorem linearImplies_holds : Rows.LinearImpliesSaid := linearImplies.proved
end Go.Proofs.YtihgdplbehempaaGreat
