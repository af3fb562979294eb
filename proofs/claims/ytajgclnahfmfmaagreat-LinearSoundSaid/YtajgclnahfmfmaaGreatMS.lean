import Derived.Test.YtajgclnahfmfmaaGreatMS5
import Derived.Test.YtajgclnahfmfmaaGreatRows
import Derived.WalkKit
import Derived.ProofKit
import Derived.OpenShut
import Derived.ShutString
import Derived.ChangeOld
import Derived.Below
import Derived.SizedLaws
namespace Go.Proofs.YtajgclnahfmfmaaGreat.linearSound
open Go.ChangeShapes Go.WideShapes Go.ChangeAt Go.RowKit
set_option linter.unusedVariables false
open Go.Vm Go.Vm.YtajgclnahfmfmaaGreat
theorem own : ownKnob Tryz.prog.godebug = none := lb.own
theorem laidOut : laidOutB Tryz.prog = true := lb.laidOut
set_option maxRecDepth 100000 in
theorem lifted (os : Os) (started : os.Started) (H : Type) (enc : TypeId × Value → H) :
    ReturnsInHanded {} Tryz.checked os 6 .any (Rows.linearSoundSpec.pre6 enc Tryz.prog Tryz.f6 Rows.linearSoundRow.domain false) (Rows.linearSoundSpec.post enc Tryz.prog Tryz.f6 false true false false) := by
  refine returnsInHanded_of_change_sized (C := Tryz.checked) own started (by kernel_rfl) Tryz.func6
    (ChangeSpec.witness6 (enc := enc) (C := Tryz.checked) false ⟨#[], #[.int .i64 0, .slice none 0 0, .agg #[.slice none 0 0, .int .i64 0], .agg #[.int .u64 0, .slice none 0 0], .slice none 0 0], []⟩ 8 (by kernel_rfl) (by kernel_rfl) (by kernel_rfl) (by kernel_rfl)) ?_
  intro W base args ds gs before hval0 hW hcnd hsz0 _
  have hval : ∀ (j : Nat) t v, Tryz.f6.params[j]? = some t → args[j]? = some v → Value.okWide Tryz.prog W .any base t v := hval0
  have hW' := hW
  obtain ⟨p, q, hA0, hV, rfl, hfz, hnd⟩ := hW
  have hA : DataW.TrodAll enc Tryz.prog W 0 (fun _ => true) true Tryz.f6.params.toList args.toList ds p := hA0
  rw [Tryz.params6] at hA hval
  obtain ⟨v0, vs0, d0, ds0, p0, q0, hargs, rfl, rfl, h0, r0⟩ := trodAll_cons hA
  obtain ⟨v1, vs1, d1, ds1, p1, q1, rfl, rfl, rfl, h1, r1⟩ := trodAll_cons r0
  obtain ⟨v2, vs2, d2, ds2, p2, q2, rfl, rfl, rfl, h2, r2⟩ := trodAll_cons r1
  obtain ⟨v3, vs3, d3, ds3, p3, q3, rfl, rfl, rfl, h3, r3⟩ := trodAll_cons r2
  obtain ⟨v4, vs4, d4, ds4, p4, q4, rfl, rfl, rfl, h4, r4⟩ := trodAll_cons r3
  obtain ⟨rfl, rfl, rfl⟩ := trodAll_nil r4
  obtain rfl : args = #[v0, v1, v2, v3, v4] := by cases args; simp_all
  obtain ⟨rfl, rfl⟩ := trodVars_none hV
  have k0 := h0
  have lt0 : ∀ x ∈ p0, x.block < W.heap.size := by obtain ⟨m, hm⟩ := k0; exact DataW.trod_lt m _ _ _ hm
  have ok0 := hval 0 3 v0 rfl rfl
  obtain ⟨n0, rfl, _, _, _⟩ := open_int Tryz.underlying3 ok0 h0
  have rd0 : Reads W (fun _ => False) (.int .i64 n0) (.int .i64 n0) := .int _ _
  have k1 := h1
  have lt1 : ∀ x ∈ p1, x.block < W.heap.size := by obtain ⟨m, hm⟩ := k1; exact DataW.trod_lt m _ _ _ hm
  have ok1 := hval 1 22 v1 rfl rfl
  obtain ⟨ad1, len1, cap1, rfl⟩ := okWide_slice Tryz.underlying22 ok1
  obtain ⟨x1, ty1, rd1⟩ := arg_one (P := Tryz.prog) (m := 20) h1 (by kernel_rfl) rfl
  obtain ⟨nn1, a1, e1⟩ := typed_rows (by kernel_rfl) ty1
  injection e1 with e1
  subst e1
  have z1 : a1.length ≤ 4398046511103 := by
    have e0 := reads_len rd1
    rw [List.length_map] at e0
    rcases arg_len (e := 37) (by kernel_rfl) h1 with e1 | ⟨el, sp, rfl, e1⟩
    · omega
    · have hr : (el.length + sp.length) * Tryz.prog.bytesOf 37 ≤ reachBytes := sized_slice hsz0 (j := 1) (t := 22) (e := 37) rfl rfl (by kernel_rfl)
      rw [show Tryz.prog.bytesOf 37 = 32 by kernel_rfl] at hr
      simp only [reachBytes] at hr
      omega
  have k2 := h2
  have lt2 : ∀ x ∈ p2, x.block < W.heap.size := by obtain ⟨m, hm⟩ := k2; exact DataW.trod_lt m _ _ _ hm
  have ok2 := hval 2 37 v2 rfl rfl
  unfold Value.okWide at ok2
  rw [Tryz.underlying37] at ok2
  obtain ⟨c2, rfl, _⟩ := ok2
  obtain ⟨x2, ty2, rd2⟩ := arg_agg (P := Tryz.prog) (m := 20) h2 (by kernel_rfl)
  obtain ⟨a2, e2⟩ := typed_row ty2
  rw [e2] at rd2
  have k3 := h3
  have lt3 : ∀ x ∈ p3, x.block < W.heap.size := by obtain ⟨m, hm⟩ := k3; exact DataW.trod_lt m _ _ _ hm
  have ok3 := hval 3 40 v3 rfl rfl
  unfold Value.okWide at ok3
  rw [Tryz.underlying40] at ok3
  obtain ⟨c3, rfl, _⟩ := ok3
  obtain ⟨x3, ty3, rd3⟩ := arg_agg (P := Tryz.prog) (m := 20) h3 (by kernel_rfl)
  obtain ⟨a3, ha3, hb3, hc3, e3⟩ := typed_cert ty3
  rw [e3] at rd3
  have k4 := h4
  have lt4 : ∀ x ∈ p4, x.block < W.heap.size := by obtain ⟨m, hm⟩ := k4; exact DataW.trod_lt m _ _ _ hm
  have ok4 := hval 4 23 v4 rfl rfl
  obtain ⟨ad4, len4, cap4, rfl⟩ := okWide_slice Tryz.underlying23 ok4
  obtain ⟨x4, ty4, rd4⟩ := arg_one (P := Tryz.prog) (m := 20) h4 (by kernel_rfl) rfl
  obtain ⟨nn4, a4, e4⟩ := typed_rats (by kernel_rfl) ty4
  injection e4 with e4
  subst e4
  refine ((LinearSound_d n0 nn1 a1 a2 a3 nn4 a4 z1 ha3 hb3 hc3).run W (fun _ => False) _ (fun _ h => h.elim) ⟨rfl, fun i x hx => ?_⟩).mono fun e W' ⟨v, he, hr, bel⟩ => ?_
  · match i, hx with
    | 0, hx => exact (Option.some.inj hx) ▸ rd0
    | 1, hx => exact (Option.some.inj hx) ▸ rd1
    | 2, hx => exact (Option.some.inj hx) ▸ rd2
    | 3, hx => exact (Option.some.inj hx) ▸ rd3
    | 4, hx => exact (Option.some.inj hx) ▸ rd4
    | n + 5, hx => exact absurd hx (by simp)
  · subst he
    cases hr
    exact ⟨_, rfl, _, _, _, [], _, [], hW', trodAll_mk1 (shut_bool Tryz.underlying4 _), (trodAll_cons_mk (Below.trod laidOut (by kernel_rfl) (of_decide_eq_true (by kernel_rfl)) k0 bel lt0) (trodAll_cons_mk (Below.trod laidOut (by kernel_rfl) (of_decide_eq_true (by kernel_rfl)) k1 bel lt1) (trodAll_cons_mk (Below.trod laidOut (by kernel_rfl) (of_decide_eq_true (by kernel_rfl)) k2 bel lt2) (trodAll_cons_mk (Below.trod laidOut (by kernel_rfl) (of_decide_eq_true (by kernel_rfl)) k3 bel lt3) (trodAll_cons_mk (Below.trod laidOut (by kernel_rfl) (of_decide_eq_true (by kernel_rfl)) k4 bel lt4) trodAll_mk0))))), rfl, bel.frame _, fun h => by cases h⟩
set_option maxHeartbeats 8000000 in
theorem closed : joinedFacts Tryz.prog 6 Tryz.f6 Rows.linearSoundSpec Rows.linearSoundRow = true := (lb.and_t (lb.and_t (lb.and_t (lb.and_t (lb.and_t (lb.and_t (lb.and_t (lb.and_t (lb.and_t (lb.and_t (lb.and_t (lb.and_t (lb.and_t (lb.and_t (lb.and_t (lb.and_t (lb.and_t (lb.and_t (lb.and_t (lb.and_t (lb.and_t (lb.and_t (lb.and_t (lb.and_t (lb.and_t (lb.and_t (lb.and_t (lb.and_t (lb.and_t (lb.and_t (lb.and_t (by as_aux_lemma => kernel_rfl) lb.laidOut) lb.rowed) (by as_aux_lemma => kernel_rfl)) (by as_aux_lemma => kernel_rfl)) (by as_aux_lemma => kernel_rfl)) (by as_aux_lemma => kernel_rfl)) (by as_aux_lemma => kernel_rfl)) (by as_aux_lemma => kernel_rfl)) (by as_aux_lemma => kernel_rfl)) (by as_aux_lemma => kernel_rfl)) (by as_aux_lemma => kernel_rfl)) (by as_aux_lemma => kernel_rfl)) (by as_aux_lemma => kernel_rfl)) (by as_aux_lemma => kernel_rfl)) (by as_aux_lemma => kernel_rfl)) (by as_aux_lemma => kernel_rfl)) (by as_aux_lemma => kernel_rfl)) (by as_aux_lemma => kernel_rfl)) (by as_aux_lemma => kernel_rfl)) (by as_aux_lemma => kernel_rfl)) (by as_aux_lemma => kernel_rfl)) lb.keys) (by as_aux_lemma => kernel_rfl)) lb.heard) lb.enters) lb.lifts) lb.made) (by as_aux_lemma => kernel_rfl)) (by as_aux_lemma => kernel_rfl)) (by as_aux_lemma => kernel_rfl)) (by as_aux_lemma => kernel_rfl))
set_option maxHeartbeats 8000000 in
theorem over : Rows.linearSoundRow.holds Tryz.pinned (OpenSpec.ofChange Rows.linearSoundSpec) :=
  OpenClaim.holds_of_wide 6 Tryz.f6 rfl rfl rfl rfl rfl rfl rfl ⟨rfl, rfl, rfl, rfl, rfl⟩ rfl rfl rfl rfl rfl (by as_aux_lemma => kernel_rfl) Tryz.func6 closed
    (of_decide_eq_true (by as_aux_lemma => kernel_rfl)) (by as_aux_lemma => unfold Func.isWrapper; first | (rw [if_pos (by decide +kernel)]; kernel_rfl) | (rw [if_neg (by decide +kernel)]; exact ⟨rfl, rfl⟩))
    (fun os started H enc _ => lifted os started H enc)
theorem proved : Rows.LinearSoundSaid := over
#print axioms proved
end Go.Proofs.YtajgclnahfmfmaaGreat.linearSound
namespace Go.Proofs.YtajgclnahfmfmaaGreat
/-- The row. -/
theorem linearSound_holds : Rows.LinearSoundSaid := linearSound.proved
end Go.Proofs.YtajgclnahfmfmaaGreat
