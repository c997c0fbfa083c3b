/- FsRead: the reference's side. -/
import Derived.Test.YtfhpgfbakimmhaaTFind
namespace Go.Proofs.YtfhpgfbakimmhaaE
open Go Go.RowKit
set_option linter.unusedVariables false
set_option maxRecDepth 100000
set_option maxHeartbeats 2000000

def readF (fs : List FileP) (nm : List Int) : List Int × Int :=
  if validF fs = true ∧ (1 ≤ nm.length ∧ nm.length ≤ 100) then (match fs.find? fun f => decide (f.nm = nm) with | some f => (f.dt, 0) | none => ([], 5)) else ([], 1)
theorem readF_bad {fs : List FileP} {nm : List Int} (h : ¬ (validF fs = true ∧ (1 ≤ nm.length ∧ nm.length ≤ 100))) : readF fs nm = ([], 1) := if_neg h
theorem readF_some {fs : List FileG} {nm : List Int} {f : FileG} (h : validF (fs.map FileG.p) = true ∧ (1 ≤ nm.length ∧ nm.length ≤ 100)) (e : findF fs nm = some f) : readF (fs.map FileG.p) nm = (f.dt, 0) := by
  unfold readF; rw [if_pos h, List.find?_map, show ((fun f : FileP => decide (f.nm = nm)) ∘ FileG.p) = fun f : FileG => decide (f.nm = nm) from rfl, show fs.find? (fun f => decide (f.nm = nm)) = some f from e]; rfl
theorem readF_none {fs : List FileG} {nm : List Int} (h : validF (fs.map FileG.p) = true ∧ (1 ≤ nm.length ∧ nm.length ≤ 100)) (e : findF fs nm = none) : readF (fs.map FileG.p) nm = ([], 5) := by
  unfold readF; rw [if_pos h, List.find?_map, show ((fun f : FileP => decide (f.nm = nm)) ∘ FileG.p) = fun f : FileG => decide (f.nm = nm) from rfl, show fs.find? (fun f => decide (f.nm = nm)) = none from e]; rfl
theorem ok_specFsRead : callOK Try.prog 20 = true := by kernel_rfl
theorem spec_FsRead {fs : List FileG} {A A0 : Option Addr} {n n0 c c0 : Nat} {nm : List Int} {W : World} (hx : RdF W (.slice A n c) n fs) (hl : n ≤ 4294967296) (hs : ∀ f ∈ fs, SmallF f) (hb : ∀ f ∈ fs, byteOK f.nm) (hv : RdB W (.slice A0 n0 c0) nm) (hn : byteOK nm) :
    Calls Try.prog 20 #[.agg #[.slice A n c], .slice A0 n0 c0] W fun e w => ∃ x, e = .returned (.tuple #[x, .int .i64 (readF (fs.map FileG.p) nm).2]) ∧ OwnB w W.heap.size x (readF (fs.map FileG.p) nm).1 ∧ Below W.heap.size W w := by
  have H := St.enter W
  obtain rfl := hx.len
  obtain rfl : n0 = nm.length := by obtain ⟨_, _, _, e, _⟩ := id hv; cases e; rfl
  obtain ⟨r, hr⟩ : ∃ r, readF (fs.map FileG.p) nm = r := ⟨_, rfl⟩
  rw [hr]
  refine calls_of_vcV (args := [.agg #[.slice A fs.length c], .slice A0 nm.length c0]) Try.func20 rfl (by kernel_rfl) (Nat.le_of_ble_eq_true rfl) ?_
  obtain ⟨o, ho⟩ : ∃ o, findF fs nm = o := ⟨_, rfl⟩
  refine newR (o := .cells #[.slice A fs.length c] _) H fun g0 w H => ?_
  refine RegV.mk ?_
  refine loadO H 0 rfl rfl ?_
  refine callV ok_spec_ValidFs (spec_ValidFs (hx.ext H.below) hl hs hb) H fun w H => ?_
  refine gNot ?_
  refine gT (fun c5 => ?_) (fun c5 => ?_)
  · refine callV ok_l7nameOK (spec_l7nameOK _) H fun w H => ?_
    refine ifNot ?_
    refine ifB (fun c8 => ?_) (fun c8 => ?_)
    · refine loadO H 0 rfl rfl ?_
      (refine callV (u := findV o) ok_l7find (by rw [← ho]; exact spec_l7find (hx.ext H.below) hl hb (hv.ext H.below) hn) H fun w H => ?_)
      cases o with
      | none =>
        subst hr
        rw [readF_none ⟨decide_eq_true c5, c8⟩ ho]
        refine newR (o := .cells #[.slice none 0 0, .slice none 0 0, .int .i64 0] _) H fun g1 w H => ?_
        refine storeO H 0 rfl rfl rfl fun w H => ?_
        refine storeO H 0 rfl rfl rfl fun w H => ?_
        refine storeO H 0 rfl rfl rfl fun w H => ?_
        refine ifNot ?_
        refine ifF ?_
        exact Exists.intro _ (And.intro rfl (And.intro (World.ownsRow_nil _ _ _ _) H.below))
      | some f =>
        subst hr
        rw [readF_some ⟨decide_eq_true c5, c8⟩ ho]
        have k0 := (hx.kids f (findF_mem ho)).1
        have k1 := (hx.kids f (findF_mem ho)).2
        have hsf := (hs f (findF_mem ho)).dt
        obtain ⟨nv, dv, fm, dt, sf⟩ := f
        obtain ⟨_, A2, c2, e2, _⟩ := id k1
        obtain ⟨_, A3, c3, e3, _⟩ := id k0
        dsimp only at *
        subst e2 e3
        refine newR (o := .cells #[.slice none 0 0, .slice none 0 0, .int .i64 0] _) H fun g1 w H => ?_
        refine storeO H 0 rfl rfl rfl fun w H => ?_
        refine storeO H 0 rfl rfl rfl fun w H => ?_
        refine storeO H 0 rfl rfl rfl fun w H => ?_
        refine ifNot ?_
        refine ifT ?_
        refine loadO H 0 rfl rfl ?_
        refine callRow ok_l1copy (spec_l1copy (k1.ext H.below) (by omega)) H fun A1 k1 w H => ?_
        exact Exists.intro _ (And.intro rfl (And.intro (H.own 0 rfl) H.below))
    · subst hr
      rw [readF_bad fun q => c8 q.2]
      exact Exists.intro _ (And.intro rfl (And.intro (World.ownsRow_nil _ _ _ _) H.below))
  · refine ifT ?_
    subst hr
    rw [readF_bad fun q => c5 (of_decide_eq_true q.1)]
    exact Exists.intro _ (And.intro rfl (And.intro (World.ownsRow_nil _ _ _ _) H.below))
end Go.Proofs.YtfhpgfbakimmhaaE
