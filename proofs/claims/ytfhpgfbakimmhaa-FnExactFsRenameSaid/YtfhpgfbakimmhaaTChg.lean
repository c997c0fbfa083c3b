/- changed: one thing done to a file system of its own. -/
import Derived.Test.YtfhpgfbakimmhaaPFile
import Derived.Test.YtfhpgfbakimmhaaTFsRead2
namespace Go.Proofs.YtfhpgfbakimmhaaE
open Go Go.RowKit
set_option linter.unusedVariables false
set_option maxRecDepth 100000
set_option maxHeartbeats 2000000

abbrev It.mem (g : Nat) (v : Value) : It := .obj g (.cells #[v] 134)
theorem ok_out : callOK Try.prog 109 = true := by kernel_rfl
theorem impl_out {g : Nat} {A : Option Addr} {n c : Nat} {W : World} (hg : W.cell? ⟨g, 0, none⟩ = some (.slice A n c)) : GivesV Try.prog 109 [.pointer (some ⟨g, 0, none⟩)] W (.agg #[.slice A n c]) := by
  have H := St.enter W
  refine calls_of_vcV (args := [.pointer (some ⟨g, 0, none⟩)]) Try.func109 rfl (by kernel_rfl) (Nat.le_of_ble_eq_true rfl) ?_
  refine newR (o := .cells #[.slice none 0 0] _) H fun g5 w H => ?_
  refine loadS (v := .slice A n c) ((HeldW.ofBelow H.below).cell hg) ?_
  refine RunS.mk ⟨.agg #[.slice A n c], w, by kernel_rfl, ?_⟩
  refine storeO H 0 rfl rfl rfl fun w H => ?_
  refine loadO H 0 rfl rfl ?_
  exact Exists.intro _ (And.intro rfl (And.intro rfl H.none))
/-- what a thing done to the files of its own is to do -/
def DoC (F : FuncId) (cap : List Value) (W : World) (fs : List FileG) (Q : List FileP → Int → Prop) : Prop :=
  ∀ (w : World) (L : List It) (g : Nat) (A : Option Addr) (n c : Nat) (gs : List FileG), gs.map FileG.p = fs.map FileG.p → St W.heap.size W w (.mem g (.slice A n c) :: .rowF (.slice A n c) n gs :: (gs.flatMap FileG.own ++ L)) →
    Calls Try.prog F (.pointer (some ⟨g, 0, none⟩) :: cap).toArray w fun e w' => ∃ v r A2 n2 c2 gs2, e = .returned v ∧ ErrV v r ∧ Q (gs2.map FileG.p) r ∧ St W.heap.size W w' (.mem g (.slice A2 n2 c2) :: .rowF (.slice A2 n2 c2) n2 gs2 :: (gs2.flatMap FileG.own ++ L))
theorem ok_changed : callOK Try.prog 69 = true := by kernel_rfl
theorem impl_changed_bad {fs : List FileG} {A : Option Addr} {n c : Nat} {b : Bool} {F : FuncId} {cap : List Value} {W : World} (hx : RdF W (.slice A n c) n fs) (hl : n ≤ 4294967296) (hs : ∀ f ∈ fs, SmallF f) (hb : ∀ f ∈ fs, byteOK f.nm) (hbad : ¬ (b = true ∧ validF (fs.map FileG.p) = true)) :
    GivesV Try.prog 69 [.agg #[.slice A n c], .bool b, .func (.func F) #[] cap.toArray] W (.tuple #[.agg #[.slice none 0 0], .int .i64 1]) := by
  have H := St.enter W
  refine calls_of_vcV (args := [.agg #[.slice A n c], .bool b, .func (.func F) #[] cap.toArray]) Try.func69 rfl (by kernel_rfl) (Nat.le_of_ble_eq_true rfl) ?_
  cases b
  · refine newR (o := .cells #[.slice A n c] _) H fun g0 w H => ?_
    refine newR (o := .cells #[.slice none 0 0] _) H fun g1 w H => ?_
    refine RegV.mk ?_
    refine gNot ?_
    refine gNt ?_
    refine ifT ?_
    refine RunS.mk ⟨.agg #[.slice none 0 0], w, by kernel_rfl, ?_⟩
    refine storeO H 0 rfl rfl rfl fun w H => ?_
    refine loadO H 0 rfl rfl ?_
    exact Exists.intro _ (And.intro rfl (And.intro rfl H.none))
  · refine newR (o := .cells #[.slice A n c] _) H fun g0 w H => ?_
    refine newR (o := .cells #[.slice none 0 0] _) H fun g1 w H => ?_
    refine RegV.mk ?_
    refine gNot ?_
    refine gY ?_
    refine loadO H 1 rfl rfl ?_
    refine callV ok_impl_ValidFs (impl_ValidFs (hx.ext H.below) hl hs hb) H fun w H => ?_
    refine ifNot ?_
    refine ifB (fun c8 => ?_) (fun c8 => ?_)
    · refine loadO H 1 rfl rfl ?_
      exact absurd ⟨rfl, decide_eq_true c8⟩ hbad
    · refine RunS.mk ⟨.agg #[.slice none 0 0], w, by kernel_rfl, ?_⟩
      refine storeO H 0 rfl rfl rfl fun w H => ?_
      refine loadO H 0 rfl rfl ?_
      exact Exists.intro _ (And.intro rfl (And.intro rfl H.none))
theorem impl_changed {fs : List FileG} {A : Option Addr} {n c : Nat} {F : FuncId} {cap : List Value} {Q : List FileP → Int → Prop} {W : World} (hx : RdF W (.slice A n c) n fs) (hl : n ≤ 4294967296) (hs : ∀ f ∈ fs, SmallF f) (hb : ∀ f ∈ fs, byteOK f.nm) (hv : validF (fs.map FileG.p) = true) (okF : callOK Try.prog F = true) (hd : DoC F cap W fs Q) :
    Calls Try.prog 69 #[.agg #[.slice A n c], .bool true, .func (.func F) #[] cap.toArray] W fun e w => ∃ A2 n2 c2 gs2 r, e = .returned (.tuple #[.agg #[.slice A2 n2 c2], .int .i64 r]) ∧ Q (gs2.map FileG.p) r ∧ St W.heap.size W w (.rowF (.slice A2 n2 c2) n2 gs2 :: gs2.flatMap FileG.own) := by
  have H := St.enter W
  have hn := hx.len
  refine calls_of_vcV (args := [.agg #[.slice A n c], .bool true, .func (.func F) #[] cap.toArray]) Try.func69 rfl (by kernel_rfl) (Nat.le_of_ble_eq_true rfl) ?_
  refine newR (o := .cells #[.slice A n c] _) H fun g0 w H => ?_
  refine newR (o := .cells #[.slice none 0 0] _) H fun g1 w H => ?_
  refine RegV.mk ?_
  refine gNot ?_
  refine gY ?_
  refine loadO H 1 rfl rfl ?_
  refine callV ok_impl_ValidFs (impl_ValidFs (hx.ext H.below) hl hs hb) H fun w H => ?_
  refine ifNot ?_
  refine ifB (fun c8 => ?_) (fun c8 => ?_)
  · refine loadO H 1 rfl rfl ?_
    refine CallS.mk ok_memoryOf ((impl_memoryOf (hx.ext H.below) hl hs).mono ?_)
    rintro _ w2 ⟨g, A', c', gs, rfl, hg, H2⟩
    have H := H.joinS H2 (own_all (.slice A' n c') 69 n (gs.flatMap FileG.cells) gs)
    refine CallS.mk okF ((hd _ _ g A' n c' gs hg H).mono ?_)
    rintro _ w3 ⟨v, r, A2, n2, c2, gs2, rfl, hv, hQ, H⟩
    refine callV ok_codeOf (impl_codeOf hv) H fun w H => ?_
    refine callV ok_out (impl_out (cell0 H 0 rfl rfl)) H fun w H => ?_
    have H : St W.heap.size W w (.obj g1 (.cells #[.slice none 0 0] 29) :: .obj g0 (.cells #[.slice A n c] 29) :: .mem g (.slice A2 n2 c2) :: .rowF (.slice A2 n2 c2) n2 gs2 :: gs2.flatMap FileG.own) := H.perm (List.perm_append_comm (α := It) (l₁ := .mem g (.slice A2 n2 c2) :: .rowF (.slice A2 n2 c2) n2 gs2 :: gs2.flatMap FileG.own) (l₂ := [.obj g1 (.cells #[.slice none 0 0] 29), .obj g0 (.cells #[.slice A n c] 29)]))
    refine storeO H 0 rfl rfl rfl fun w H => ?_
    refine loadO H 0 rfl rfl ?_
    exact Exists.intro A2 (Exists.intro n2 (Exists.intro c2 (Exists.intro gs2 (Exists.intro r (And.intro rfl (And.intro hQ H.tl.tl.tl))))))
  · refine RunS.mk ⟨.agg #[.slice none 0 0], w, by kernel_rfl, ?_⟩
    refine storeO H 0 rfl rfl rfl fun w H => ?_
    refine loadO H 0 rfl rfl ?_
    exact absurd (of_decide_eq_true hv) c8
end Go.Proofs.YtfhpgfbakimmhaaE
