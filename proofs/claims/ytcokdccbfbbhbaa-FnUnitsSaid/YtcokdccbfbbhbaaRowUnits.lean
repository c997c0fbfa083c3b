/- The row of the law FnUnits, out of what its call does. -/
import Derived.Test.YtcokdccbfbbhbaaRows
import Derived.Test.YtcokdccbfbbhbaaTUnitsL
import Derived.WalkKit
import Derived.ProofKit
import Derived.OpenShut
import Derived.ShutString
import Derived.ChangeOld
import Derived.SizedLaws
namespace Go.Proofs.Ytcokdccbfbbhbaa.fnUnits
open Go.ChangeShapes Go.WideShapes Go.ChangeAt Go.RowKit Go.Proofs.YtcokdccbfbbhbaaE
open Go.ChangeMaps (open_string shut_string)
set_option linter.unusedVariables false
theorem own : ownKnob Try.prog.godebug = none := by kernel_rfl
theorem laidOut : laidOutB Try.prog = true := by kernel_rfl
theorem rdOf {W : World} {a : Addr} {len cap : Nat} {zs : List Int} (hl : len ≤ cap) (hz : zs.length = cap) (hcell : ∀ i, i < zs.length → W.cell? (a.add i) = some (.int .u8 (zs.getD i 0))) :
    Rd W (.slice (some a) len cap) 1 len ((zs.take len).map (.int .u8)) := by
  refine ⟨by simp; omega, some a, cap, rfl, hl, ?_⟩
  by_cases h0 : len = 0
  · exact .inl h0
  · right
    obtain ⟨b, off, spot⟩ := a
    have hs : spot = none := by
      have h := hcell 0 (by omega)
      have e : (⟨b, off, spot⟩ : Addr).add 0 = ⟨b, off, spot⟩ := by simp [Addr.add]
      rw [e] at h
      cases spot with
      | none => rfl
      | some s => simp only [World.cell?, Option.isSome_some, if_true] at h; split at h <;> cases h
    subst hs
    refine ⟨b, off, rfl, fun j hj => ?_⟩
    have hj' : j < zs.length := by simp at hj; omega
    have h := hcell j hj'
    rw [Go.Proofs.YtcokdccbfbbhbaaE.add_plain] at h
    rw [h, List.getElem?_map, List.getElem?_take, if_pos (by simp at hj; omega), List.getElem?_eq_getElem hj']
    simp [hj']
set_option maxRecDepth 100000 in
theorem lifted (os : Os) (started : os.Started) (H : Type) (enc : TypeId × Value → H) :
    ReturnsInHanded {} Try.checked os 13 .any (Rows.fnUnitsSpec.pre6 enc Try.prog Try.f13 Rows.fnUnitsRow.domain false) (Rows.fnUnitsSpec.post enc Try.prog Try.f13 false true false false) := by
  refine returnsInHanded_of_change_sized (C := Try.checked) own started (by kernel_rfl) Try.func13
    (ChangeSpec.witness6 (enc := enc) (C := Try.checked) false ⟨#[], #[.slice none 0 0], []⟩ 8 (by kernel_rfl) (by kernel_rfl) (by kernel_rfl) (by kernel_rfl)) ?_
  intro W base args ds gs before hval0 hW hcnd hsz0 _
  have hval : ∀ (j : Nat) t v, Try.f13.params[j]? = some t → args[j]? = some v → Value.okWide Try.prog W .any base t v := hval0
  have hW' := hW
  obtain ⟨p, q, hA0, hV, rfl, hfz, hnd⟩ := hW
  have hA : DataW.TrodAll enc Try.prog W 0 (fun _ => true) true Try.f13.params.toList args.toList ds p := hA0
  rw [Try.params13] at hA hval
  obtain ⟨v0, vs0, d0, ds0, p0, q0, hargs, rfl, rfl, h0, r0⟩ := trodAll_cons hA
  obtain ⟨rfl, rfl, rfl⟩ := trodAll_nil r0
  obtain rfl : args = #[v0] := by cases args; simp_all
  obtain ⟨rfl, rfl⟩ := trodVars_none hV
  obtain ⟨a0, len0, cap0, rfl⟩ := okWide_slice undB (hval 0 30 v0 rfl rfl)
  have k0 := h0
  have lt0 : ∀ x ∈ p0, x.block < W.heap.size := by obtain ⟨m, hm⟩ := k0; exact DataW.trod_lt m _ _ _ hm
  obtain ⟨z0, hlen, rd0, wf0⟩ : ∃ zs : List Int, len0 = zs.length ∧ Rd W (.slice a0 len0 cap0) 1 len0 (zs.map (.int .u8)) ∧ (∀ x ∈ zs, 0 ≤ x ∧ x < 256) := by
    obtain ⟨fuel, hf⟩ := h0
    rcases open_ints undB (by kernel_rfl : Try.prog.underlying 5 = some (.int .u8)) (by kernel_rfl) hf with ⟨hcs, _⟩ | ⟨x, l, c, zs, hcs, _, hl, hm, hz, _, hcell, hwz⟩
    · simp [Value.cells] at hcs
      obtain ⟨rfl, rfl, rfl⟩ := hcs
      exact ⟨[], rfl, ⟨by simp, none, 0, rfl, Nat.le_refl _, .inl rfl⟩, by simp⟩
    · simp [Value.cells] at hcs
      obtain ⟨rfl, rfl, rfl⟩ := hcs
      have hz' : zs.length = cap0 := by simpa using hz
      refine ⟨zs.take len0, by simp; omega, rdOf hl hz' hcell, ?_⟩
      intro x hx
      have := hwz x (List.mem_of_mem_take hx)
      have := bounds_u8 this; omega
  subst hlen
  clear hA0 hval0 hsz0
  refine (law_Units z0 a0 cap0 W rd0 wf0).mono fun e W' ⟨he, bel⟩ => ?_
  subst he
  exact ⟨_, rfl, _, _, _, [], _, [], hW', trodAll_mk1 (shut_bool (by kernel_rfl : Try.prog.underlying 4 = some .bool) _), (trodAll_cons_mk (Below.trod laidOut (by kernel_rfl) (of_decide_eq_true (by kernel_rfl)) k0 bel lt0) trodAll_mk0), rfl, bel.frame _, fun h => by cases h⟩
theorem over : Rows.fnUnitsRow.holds Try.pinned (OpenSpec.ofChange Rows.fnUnitsSpec) :=
  OpenClaim.holds_of_wide 13 Try.f13 rfl rfl rfl rfl rfl rfl rfl ⟨rfl, rfl, rfl, rfl, rfl⟩ rfl rfl rfl rfl rfl (by kernel_rfl) Try.func13 (by kernel_rfl)
    (of_decide_eq_true (by kernel_rfl)) (by unfold Func.isWrapper; first | (rw [if_pos (by decide +kernel)]; kernel_rfl) | (rw [if_neg (by decide +kernel)]; exact ⟨rfl, rfl⟩))
    (fun os started H enc _ => lifted os started H enc)
end Go.Proofs.Ytcokdccbfbbhbaa.fnUnits
namespace Go.Proofs.Ytcokdccbfbbhbaa
theorem fnUnits_holds : Rows.FnUnitsSaid := fnUnits.over
end Go.Proofs.Ytcokdccbfbbhbaa
