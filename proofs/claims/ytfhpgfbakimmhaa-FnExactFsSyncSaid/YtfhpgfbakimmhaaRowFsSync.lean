/- The row of the law FnExactFsSync, out of what its call does. -/
import Derived.Test.YtfhpgfbakimmhaaRows
import Derived.Test.YtfhpgfbakimmhaaLawFsSync
import Derived.Test.YtfhpgfbakimmhaaOpenF
import Derived.WalkKit
import Derived.ProofKit
import Derived.OpenShut
import Derived.ShutString
import Derived.ChangeOld
import Derived.SizedLaws
namespace Go.Proofs.Ytfhpgfbakimmhaa.fnExactFsSync
open Go.ChangeShapes Go.WideShapes Go.ChangeAt Go.RowKit Go.Proofs.YtfhpgfbakimmhaaE
open Go.ChangeMaps (open_string shut_string)
set_option linter.unusedVariables false
set_option maxRecDepth 100000
set_option maxHeartbeats 4000000
theorem own : ownKnob Try.prog.godebug = none := by kernel_rfl
theorem laidOut : laidOutB Try.prog = true := by kernel_rfl
theorem lifted (os : Os) (started : os.Started) (H : Type) (enc : TypeId × Value → H) :
    ReturnsInHanded {} Try.checked os 7 .any (Rows.fnExactFsSyncSpec.pre6 enc Try.prog Try.f7 Rows.fnExactFsSyncRow.domain false) (Rows.fnExactFsSyncSpec.post enc Try.prog Try.f7 false true false false) := by
  refine returnsInHanded_of_change_sized (C := Try.checked) own started (by kernel_rfl) Try.func7
    (ChangeSpec.witness6 (enc := enc) (C := Try.checked) false ⟨#[], #[.agg #[.slice none 0 0], .slice none 0 0], []⟩ 8 (by kernel_rfl) (by kernel_rfl) (by kernel_rfl) (by kernel_rfl)) ?_
  intro W base args ds gs before hval0 hW hcnd hsz0 _
  have hval : ∀ (j : Nat) t v, Try.f7.params[j]? = some t → args[j]? = some v → Value.okWide Try.prog W .any base t v := hval0
  have hW' := hW
  obtain ⟨p, q, hA0, hV, rfl, hfz, hnd⟩ := hW
  have hA : DataW.TrodAll enc Try.prog W 0 (fun _ => true) true Try.f7.params.toList args.toList ds p := hA0
  rw [Try.params7] at hA hval
  obtain ⟨v0, vs0, d0, ds0, p0, q0, hargs0, rfl, rfl, h0, r0⟩ := trodAll_cons hA
  obtain ⟨v1, vs1, d1, ds1, p1, q1, hargs1, rfl, rfl, h1, r1⟩ := trodAll_cons r0
  obtain ⟨rfl, rfl, rfl⟩ := trodAll_nil r1
  obtain rfl : args = #[v0, v1] := by cases args; simp_all
  obtain ⟨rfl, rfl⟩ := trodVars_none hV
  have k0 := h0
  have lt0 : ∀ x ∈ p0, x.block < W.heap.size := by obtain ⟨m, hm⟩ := k0; exact DataW.trod_lt m _ _ _ hm
  have k1 := h1
  have lt1 : ∀ x ∈ p1, x.block < W.heap.size := by obtain ⟨m, hm⟩ := k1; exact DataW.trod_lt m _ _ _ hm
  obtain ⟨s0, rfl⟩ := okWide_agg fldFs (hval 0 24 v0 rfl rfl)
  obtain ⟨A0, n0, c0, fs0, rfl, hn0, rd0, fine0⟩ : ∃ A n c, ∃ fs : List FileG, s0 = #[.slice A n c] ∧ n ≤ 9223372036854775807 ∧ RdF W (.slice A n c) n fs ∧ ∀ f ∈ fs, FineF f := by
    obtain ⟨fuel, hf⟩ := h0
    obtain ⟨hl, hfs⟩ := open_struct fldFs hf
    obtain ⟨m, y, hy⟩ := hfs 0 _ rfl
    rw [(by kernel_rfl : Try.prog.cellsOf 24 = 1)] at hl
    obtain ⟨l⟩ := s0
    have hl : l.length = 1 := hl
    have hy : DataW.trod enc Try.prog W 0 (fun _ => true) true m 22 ((l.drop 0).take 1) = some y := hy
    clear hf hfs
    obtain ⟨u, rfl⟩ := one_of l hl
    obtain ⟨A, n, c, rfl, h1, fs, h2, h3⟩ := open_files (show DataW.trod enc Try.prog W 0 (fun _ => true) true m 22 [u] = some y from hy)
    exact ⟨A, n, c, fs, rfl, h1, h2, h3⟩
  obtain ⟨A1, n1, c1, rfl⟩ := okWide_slice undB (hval 1 33 v1 rfl rfl)
  obtain ⟨z1, hn1, rd1, fine1, mx1⟩ : ∃ zs : List Int, n1 = zs.length ∧ Rd W (.slice A1 n1 c1) 1 n1 (zs.map (.int .u8)) ∧ (∀ z ∈ zs, 0 ≤ z ∧ z < 256) ∧ n1 ≤ 9223372036854775807 := by
    obtain ⟨fuel, hf⟩ := h1
    obtain ⟨A, n, c, hv, h1, h2, zs, h3, h4, h5⟩ := open_nums undB (by kernel_rfl : Try.prog.underlying 5 = some (.int .u8)) (by kernel_rfl) (show DataW.trod enc Try.prog W 0 (fun _ => true) true fuel 33 [.slice A1 n1 c1] = some _ from hf)
    cases hv
    unfold maxLen at h2
    exact ⟨zs, h3.symm, h4, fun z hz => wf_u8 (h5 z hz), by omega⟩
  subst hn1
  clear hA0 hval0 hsz0
  refine (law_FsSync rd0 hn0 (fun f hf => ⟨(fine0 f hf).nl, (fine0 f hf).dl⟩) (fun f hf => ⟨(fine0 f hf).nb, (fine0 f hf).db⟩) rd1 fine1 (by omega)).mono fun e W' ⟨he, bel⟩ => ?_
  subst he
  exact ⟨_, rfl, _, _, _, [], _, [], hW', trodAll_mk1 (shut_bool (by kernel_rfl : Try.prog.underlying 4 = some .bool) _), (trodAll_cons_mk (Below.trod laidOut (by kernel_rfl) (of_decide_eq_true (by kernel_rfl)) k0 bel lt0) (trodAll_cons_mk (Below.trod laidOut (by kernel_rfl) (of_decide_eq_true (by kernel_rfl)) k1 bel lt1) trodAll_mk0)), rfl, bel.frame _, fun h => by cases h⟩
theorem over : Rows.fnExactFsSyncRow.holds Try.pinned (OpenSpec.ofChange Rows.fnExactFsSyncSpec) :=
  OpenClaim.holds_of_wide 7 Try.f7 rfl rfl rfl rfl rfl rfl rfl ⟨rfl, rfl, rfl, rfl, rfl⟩ rfl rfl rfl rfl rfl (by kernel_rfl) Try.func7 (by kernel_rfl)
    (of_decide_eq_true (by kernel_rfl)) (by unfold Func.isWrapper; first | (rw [if_pos (by decide +kernel)]; kernel_rfl) | (rw [if_neg (by decide +kernel)]; exact ⟨rfl, rfl⟩))
    (fun os started H enc _ => lifted os started H enc)
end Go.Proofs.Ytfhpgfbakimmhaa.fnExactFsSync
namespace Go.Proofs.Ytfhpgfbakimmhaa
theorem fnExactFsSync_holds : Rows.FnExactFsSyncSaid := fnExactFsSync.over
end Go.Proofs.Ytfhpgfbakimmhaa
