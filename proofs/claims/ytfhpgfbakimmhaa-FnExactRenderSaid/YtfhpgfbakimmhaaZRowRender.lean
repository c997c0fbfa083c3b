/- The row of the law FnExactRender, out of what its call does. -/
import Derived.Test.YtfhpgfbakimmhaaRows
import Derived.WalkKit
import Derived.ProofKit
import Derived.OpenShut
import Derived.ShutString
import Derived.ChangeOld
import Derived.SizedLaws
import Derived.Test.YtfhpgfbakimmhaaRenderQ5
namespace Go.Proofs.Ytfhpgfbakimmhaa.fnExactRender
open Go.ChangeShapes Go.WideShapes Go.ChangeAt Go.RowKit Go.Proofs.YtfhpgfbakimmhaaE
open Go.ChangeMaps (open_string shut_string)
set_option linter.unusedVariables false
set_option maxRecDepth 100000
set_option maxHeartbeats 4000000
theorem own : ownKnob Try.prog.godebug = none := by kernel_rfl
theorem laidOut : laidOutB Try.prog = true := by kernel_rfl
theorem lifted (os : Os) (started : os.Started) (H : Type) (enc : TypeId × Value → H) :
    ReturnsInHanded {} Try.checked os 13 .any (Rows.fnExactRenderSpec.pre6 enc Try.prog Try.f13 Rows.fnExactRenderRow.domain false) (Rows.fnExactRenderSpec.post enc Try.prog Try.f13 false true false false) := by
  refine returnsInHanded_of_change_sized (C := Try.checked) own started (by kernel_rfl) Try.func13
    (ChangeSpec.witness6 (enc := enc) (C := Try.checked) false ⟨#[], #[.slice none 0 0, .slice none 0 0], []⟩ 8 (by kernel_rfl) (by kernel_rfl) (by kernel_rfl) (by kernel_rfl)) ?_
  intro W base args ds gs before hval0 hW hcnd hsz0 _
  have hval : ∀ (j : Nat) t v, Try.f13.params[j]? = some t → args[j]? = some v → Value.okWide Try.prog W .any base t v := hval0
  have hW' := hW
  obtain ⟨p, q, hA0, hV, rfl, hfz, hnd⟩ := hW
  have hA : DataW.TrodAll enc Try.prog W 0 (fun _ => true) true Try.f13.params.toList args.toList ds p := hA0
  rw [Try.params13] at hA hval
  obtain ⟨v0, vs0, d0, ds0, p0, q0, hargs0, rfl, rfl, h0, r0⟩ := trodAll_cons hA
  obtain ⟨v1, vs1, d1, ds1, p1, q1, hargs1, rfl, rfl, h1, r1⟩ := trodAll_cons r0
  obtain ⟨rfl, rfl, rfl⟩ := trodAll_nil r1
  obtain rfl : args = #[v0, v1] := by cases args; simp_all
  obtain ⟨rfl, rfl⟩ := trodVars_none hV
  have k0 := h0
  have lt0 : ∀ x ∈ p0, x.block < W.heap.size := by obtain ⟨m, hm⟩ := k0; exact DataW.trod_lt m _ _ _ hm
  have k1 := h1
  have lt1 : ∀ x ∈ p1, x.block < W.heap.size := by obtain ⟨m, hm⟩ := k1; exact DataW.trod_lt m _ _ _ hm
  obtain ⟨A0, n0, c0, rfl⟩ := okWide_slice undLPs (hval 0 47 v0 rfl rfl)
  obtain ⟨fs0, hn0, rd0, fine0⟩ : ∃ fs : List PieceG, n0 ≤ 9223372036854775807 ∧ RdPiece W (.slice A0 n0 c0) n0 fs ∧ ∀ f ∈ fs, FineP f := by
    obtain ⟨fuel, hf⟩ := h0
    obtain ⟨A, n, c, hv, h1, fs, h2, h3⟩ := open_pieces (show DataW.trod enc Try.prog W 0 (fun _ => true) true fuel 47 [.slice A0 n0 c0] = some _ from hf)
    cases hv
    exact ⟨fs, h1, h2, h3⟩
  obtain ⟨A1, n1, c1, rfl⟩ := okWide_slice undI (hval 1 58 v1 rfl rfl)
  obtain ⟨z1, hn1, rd1, fine1, mx1⟩ : ∃ zs : List Int, n1 = zs.length ∧ Rd W (.slice A1 n1 c1) 1 n1 (zs.map (.int .i64)) ∧ (∀ z ∈ zs, -9223372036854775808 ≤ z ∧ z ≤ 9223372036854775807) ∧ n1 ≤ 9223372036854775807 := by
    obtain ⟨fuel, hf⟩ := h1
    obtain ⟨A, n, c, hv, h1, h2, zs, h3, h4, h5⟩ := open_nums undI (by kernel_rfl : Try.prog.underlying 3 = some (.int .i64)) (by kernel_rfl) (show DataW.trod enc Try.prog W 0 (fun _ => true) true fuel 58 [.slice A1 n1 c1] = some _ from hf)
    cases hv
    unfold maxLen at h2
    exact ⟨zs, h3.symm, h4, fun z hz => wf_i64 (h5 z hz), by omega⟩
  subst hn1
  clear hA0 hval0 hsz0
  refine (law_Render rd0 hn0 (fun f hf => (fine0 f hf).l) (fun f hf => (fine0 f hf).b) rd1 fine1 (by omega)).mono fun e W' ⟨he, bel⟩ => ?_
  subst he
  exact ⟨_, rfl, _, _, _, [], _, [], hW', trodAll_mk1 (shut_bool (by kernel_rfl : Try.prog.underlying 4 = some .bool) _), (trodAll_cons_mk (Below.trod laidOut (by kernel_rfl) (of_decide_eq_true (by kernel_rfl)) k0 bel lt0) (trodAll_cons_mk (Below.trod laidOut (by kernel_rfl) (of_decide_eq_true (by kernel_rfl)) k1 bel lt1) trodAll_mk0)), rfl, bel.frame _, fun h => by cases h⟩
theorem over : Rows.fnExactRenderRow.holds Try.pinned (OpenSpec.ofChange Rows.fnExactRenderSpec) :=
  OpenClaim.holds_of_wide 13 Try.f13 rfl rfl rfl rfl rfl rfl rfl ⟨rfl, rfl, rfl, rfl, rfl⟩ rfl rfl rfl rfl rfl (by kernel_rfl) Try.func13 (by kernel_rfl)
    (of_decide_eq_true (by kernel_rfl)) (by unfold Func.isWrapper; first | (rw [if_pos (by decide +kernel)]; kernel_rfl) | (rw [if_neg (by decide +kernel)]; exact ⟨rfl, rfl⟩))
    (fun os started H enc _ => lifted os started H enc)
end Go.Proofs.Ytfhpgfbakimmhaa.fnExactRender
namespace Go.Proofs.Ytfhpgfbakimmhaa
theorem fnExactRender_holds : Rows.FnExactRenderSaid := fnExactRender.over
end Go.Proofs.Ytfhpgfbakimmhaa
