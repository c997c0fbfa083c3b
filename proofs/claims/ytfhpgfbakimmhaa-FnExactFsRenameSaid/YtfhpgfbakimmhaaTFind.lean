/- Finding a file by its name: the reference's side. -/
import Derived.Test.YtfhpgfbakimmhaaTValid
import Derived.Test.YtfhpgfbakimmhaaTLib
namespace Go.Proofs.YtfhpgfbakimmhaaE
open Go Go.RowKit
set_option linter.unusedVariables false
set_option maxRecDepth 100000
set_option maxHeartbeats 2000000

def findF (fs : List FileG) (nm : List Int) : Option FileG := fs.find? fun f => decide (f.nm = nm)
theorem findF_some {fs : List FileG} {nm : List Int} {j : Nat} {f : FileG} (hf : fs[j]? = some f) (e : f.nm = nm) (hg : ∀ i g, i < j → fs[i]? = some g → g.nm ≠ nm) : findF fs nm = some f := by
  obtain ⟨hj, rfl⟩ := List.getElem?_eq_some_iff.1 hf
  exact List.find?_eq_some_iff_getElem.2 ⟨decide_eq_true e, j, hj, rfl, fun i hi => by simpa using hg i _ hi (List.getElem?_eq_getElem (by omega))⟩
theorem findF_none {fs : List FileG} {nm : List Int} (hg : ∀ i g, i < fs.length → fs[i]? = some g → g.nm ≠ nm) : findF fs nm = none := by
  refine List.find?_eq_none.2 fun f hf => ?_
  obtain ⟨i, hi, rfl⟩ := List.getElem_of_mem hf
  simpa using hg i _ hi (List.getElem?_eq_getElem hi)
theorem findF_mem {fs : List FileG} {nm : List Int} {f : FileG} (h : findF fs nm = some f) : f ∈ fs := List.mem_of_find?_eq_some h
def findV : Option FileG → Value
  | some f => .tuple #[.agg #[f.nv, f.dv, .int .i64 f.sf], .bool true]
  | none => .tuple #[.agg #[.slice none 0 0, .slice none 0 0, .int .i64 0], .bool false]
theorem ok_l7find : callOK Try.prog 62 = true := by kernel_rfl
theorem spec_l7find {fs : List FileG} {A : Option Addr} {n c : Nat} {v : Value} {nm : List Int} {W : World} (hx : RdF W (.slice A n c) n fs) (hl : n ≤ 4294967296) (hb : ∀ f ∈ fs, byteOK f.nm) (hv : RdB W v nm) (hn : byteOK nm) :
    GivesV Try.prog 62 [.agg #[.slice A n c], v] W (findV (findF fs nm)) := by
  have H := St.enter W
  obtain rfl := hx.len
  obtain ⟨_, A0, c0, rfl, _⟩ := id hv
  refine calls_of_vcV (args := [.agg #[.slice A fs.length c], .slice A0 nm.length c0]) Try.func62 rfl (by kernel_rfl) (Nat.le_of_ble_eq_true rfl) ?_
  have ret : ∀ {o : Option FileG} {x : Value} {w : World} {L : List It}, findF fs nm = o → x = findV o → St W.heap.size W w L → ∃ v, Ending.returned x = .returned v ∧ v = findV (findF fs nm) ∧ St W.heap.size W w [] := fun e e' H => ⟨_, rfl, by rw [e, e'], H.none⟩
  refine newR (o := .cells #[.slice A fs.length c] _) H fun g0 w H => ?_
  refine newR (o := .cells #[.slice none 0 0, .slice none 0 0, .int .i64 0] _) H fun g1 w H => ?_
  refine loopV (by kernel_rfl) (fun m e w => e 1 = .slice A0 nm.length c0 ∧ e 2 = .pointer (some ⟨g0, 0, none⟩) ∧ e 4 = .pointer (some ⟨g1, 0, none⟩) ∧ ∃ j : Nat, e 6 = .int .i64 j ∧ j + m = fs.length ∧ (∀ i g, i < j → fs[i]? = some g → g.nm ≠ nm) ∧ St W.heap.size W w [.obj g1 (.cells #[.slice none 0 0, .slice none 0 0, .int .i64 0] 69), .obj g0 (.cells #[.slice A fs.length c] 29)]) fs.length
      ⟨rfl, rfl, rfl, 0, rfl, by omega, fun i g hi => by omega, H⟩ ?_
  rintro m e w ⟨h1, h2, h4, j, h6, hj, hg, H⟩
  rw [Env.four h1 h2 h4 h6]
  refine loadO H 1 rfl rfl ?_
  refine ifB (fun c1 => ?_) (fun c1 => ?_)
  · have hjl : j < fs.length := by omega
    obtain ⟨f, hf⟩ : ∃ f, fs[j]? = some f := ⟨_, List.getElem?_eq_getElem hjl⟩
    have hfm : f ∈ fs := List.mem_of_getElem? hf
    have hbf := hb f hfm
    have k1 := hx.kids f hfm
    obtain ⟨nv, dv, fm, dt, sf⟩ := f
    obtain ⟨_, A1, c1, e1, _⟩ := id k1.1
    obtain ⟨_, A2, c2, e2, _⟩ := id k1.2
    dsimp only at *
    subst e1 e2
    refine JoinV.mk ?_
    ((refine drawR H fun w H => ?_; have H0 := H))
    refine loadO H 1 rfl rfl ?_
    (refine idxC (cells := FileG.cells) FileG.cells_len (hx.ext H.below).row hf hjl fun b off hc => ?_)
    refine loadS (v := .slice A1 fm.length c1) (hc 0 _ rfl) ?_
    refine convBQ (k1.1.ext H.below) ?_
    refine convBQ (hv.ext H.below) ?_
    refine strE hbf hn rfl ?_
    refine ifB (fun c7 => ?_) (fun c7 => ?_)
    · refine loadO H 1 rfl rfl ?_
      (refine idxC (cells := FileG.cells) FileG.cells_len (hx.ext H.below).row hf hjl fun b off hc => ?_)
      refine loadS (v := .slice A1 fm.length c1) (hc 0 _ rfl) ?_
      refine loadS (hc 1 _ rfl) ?_
      refine loadS (v := .int .i64 sf) (hc 2 _ rfl) ?_
      refine storeO H 0 rfl rfl rfl fun w H => ?_
      refine storeO H 0 rfl rfl rfl fun w H => ?_
      refine storeO H 0 rfl rfl rfl fun w H => ?_
      refine loadO H 0 rfl rfl ?_
      refine loadO H 0 rfl rfl ?_
      refine loadO H 0 rfl rfl ?_
      exact ret (findF_some hf c7 hg) rfl H
    · refine arN (by omega) ?_
      refine Exists.intro (m - 1) (And.intro (by omega) ⟨rfl, rfl, rfl, j + 1, rfl, by omega, fun i g hi hg' => ?_, H⟩)
      rcases Nat.lt_succ_iff_lt_or_eq.1 hi with q | rfl
      · exact hg i g q hg'
      · rw [hf] at hg'; cases hg'; exact c7
  · refine RunS.mk ⟨.agg #[.slice none 0 0, .slice none 0 0, .int .i64 0], w, by kernel_rfl, ?_⟩
    refine storeO H 0 rfl rfl rfl fun w H => ?_
    refine storeO H 0 rfl rfl rfl fun w H => ?_
    refine storeO H 0 rfl rfl rfl fun w H => ?_
    refine loadO H 0 rfl rfl ?_
    refine loadO H 0 rfl rfl ?_
    refine loadO H 0 rfl rfl ?_
    exact ret (findF_none fun i g hi => hg i g (by omega)) rfl H
theorem ok_l1copy : callOK Try.prog 63 = true := by kernel_rfl
theorem spec_l1copy {A : Option Addr} {n c : Nat} {xs : List Int} {W : World} (hx : RdB W (.slice A n c) xs) (hl : n ≤ 1099511627776) : Calls Try.prog 63 #[.slice A n c] W fun e w => ∃ x, e = .returned x ∧ OwnB w W.heap.size x xs ∧ Below W.heap.size W w := by
  have H := ((St.enter W).ro0 rfl hx).rowNil (e := 5) (sz := 1)
  obtain rfl : n = xs.length := by obtain ⟨_, _, _, e, _⟩ := id hx; cases e; rfl
  refine calls_of_vcV (args := [.slice A xs.length c]) Try.func63 rfl (by kernel_rfl) (Nat.le_of_ble_eq_true rfl) ?_
  refine appBS (xs := []) H 0 rfl (H.rd 1 rfl) (by simp only [List.length_nil]; omega) fun A1 k0 w H => ?_
  exact Exists.intro _ (And.intro rfl (And.intro (H.own 0 rfl) H.below))
theorem ok_clone : callOK Try.prog 106 = true := by kernel_rfl
theorem slices_Clone {A : Option Addr} {n c : Nat} {xs : List Int} {W : World} (hx : RdB W (.slice A n c) xs) (hl : n ≤ 1099511627776) : Calls Try.prog 106 #[.slice A n c] W fun e w => ∃ x, e = .returned x ∧ OwnB w W.heap.size x xs ∧ Below W.heap.size W w := by
  have H := (St.enter W).ro0 rfl hx
  obtain rfl : n = xs.length := by obtain ⟨_, _, _, e, _⟩ := id hx; cases e; rfl
  cases A
  all_goals refine calls_of_vcV (args := [.slice _ xs.length c]) Try.func106 rfl (by kernel_rfl) (Nat.le_of_ble_eq_true rfl) ?_
  · obtain rfl : xs = [] := by
      obtain ⟨_, _, _, e, _, h⟩ := id hx
      cases e
      rcases h with h | ⟨_, _, h, _⟩
      · exact List.eq_nil_of_length_eq_zero h
      · cases h
    refine ifT ?_
    exact Exists.intro _ (And.intro rfl (And.intro (World.ownsRow_nil _ _ _ _) (Below.refl _ _)))
  · refine ifF ?_
    refine litBS (xs := []) H (by decide) (by kernel_rfl) fun A0 c0 w H => ?_
    refine appBS (xs := []) H 0 rfl (H.rd 1 rfl) (by simp only [List.length_nil]; omega) fun A1 k0 w H => ?_
    exact Exists.intro _ (And.intro rfl (And.intro (H.own 0 rfl) H.below))
end Go.Proofs.YtfhpgfbakimmhaaE
