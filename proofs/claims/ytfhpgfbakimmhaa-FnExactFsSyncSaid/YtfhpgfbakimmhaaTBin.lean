/- slices.BinarySearchFunc over files; (*memory).find. -/
import Derived.Test.YtfhpgfbakimmhaaTMem
namespace Go.Proofs.YtfhpgfbakimmhaaE
open Go Go.RowKit
set_option linter.unusedVariables false
set_option maxRecDepth 100000
set_option maxHeartbeats 2000000

theorem ok_find1 : callOK Try.prog 130 = true := by kernel_rfl
theorem impl_find1 {v v' : Value} {xs ys : List Int} {d : Value} {s : Int} (hx : byteOK xs) (hy : byteOK ys) {W : World} (rx : RdB W v xs) (ry : RdB W v' ys) (hd : ∃ A n c, d = .slice A n c) : GivesV Try.prog 130 [.agg #[v, d, .int .i64 s], v'] W (.int .i64 (cmpB xs ys)) := by
  have H := St.enter W
  obtain ⟨A3, n3, c3, rfl⟩ := hd
  obtain ⟨_, A1, c1, rfl, _⟩ := id rx
  obtain ⟨_, A2, c2, rfl, _⟩ := id ry
  refine calls_of_vcV (args := [.agg #[.slice A1 xs.length c1, .slice A3 n3 c3, .int .i64 s], .slice A2 ys.length c2]) Try.func130 rfl (by kernel_rfl) (Nat.le_of_ble_eq_true rfl) ?_
  refine newR (o := .cells #[.slice A1 xs.length c1, .slice A3 n3 c3, .int .i64 s] _) H fun g5 w H => ?_
  refine loadO H 0 rfl rfl ?_
  refine callV ok_bCompare (bytes_Compare hx hy (rx.ext H.below) (ry.ext H.below)) H fun w H => ?_
  exact Exists.intro _ (And.intro rfl (And.intro rfl H.none))
theorem aru64 {x : Int} {K : Int → Prop} (h0 : 0 ≤ x) (h1 : x ≤ 18446744073709551615) (k : K x) : ArS .u64 x K := ⟨by
  have h : x % 18446744073709551616 = x := by omega
  rw [show IntKind.u64.wrap x = x % 18446744073709551616 by simp [IntKind.wrap, IntKind.bits, IntKind.signed], h]; exact k⟩
structure LowF (fs : List FileG) (nm : List Int) (i0 : Nat) : Prop where
  le : i0 ≤ fs.length
  lo : ∀ k f, fs[k]? = some f → k < i0 → cmpB f.nm nm < 0
  hi : ∀ k f, fs[k]? = some f → i0 ≤ k → 0 ≤ cmpB f.nm nm
def hitF (fs : List FileG) (nm : List Int) (i0 : Nat) : Bool := match fs[i0]? with | some f => decide (cmpB f.nm nm = 0) | none => false
theorem ok_bsf : callOK Try.prog 129 = true := by kernel_rfl
theorem slices_BSF {fs : List FileG} {nm : List Int} {A : Option Addr} {n c : Nat} {v : Value} {i0 : Nat} {W : World} (hx : RdF W (.slice A n c) n fs) (hl : n ≤ 4294967296) (hb : ∀ f ∈ fs, byteOK f.nm) (hv : RdB W v nm) (hn : byteOK nm) (hi : LowF fs nm i0) :
    GivesV Try.prog 129 [.slice A n c, v, .func (.func 130) #[] #[]] W (.tuple #[.int .i64 i0, .bool (hitF fs nm i0)]) := by
  have H := St.enter W
  obtain rfl := hx.len
  obtain ⟨_, A0, c0, rfl, _⟩ := id hv
  refine calls_of_vcV (args := [.slice A fs.length c, .slice A0 nm.length c0, .func (.func 130) #[] #[]]) Try.func129 rfl (by kernel_rfl) (Nat.le_of_ble_eq_true rfl) ?_
  refine loopV (by kernel_rfl) (fun m e w => e 0 = .slice A fs.length c ∧ e 1 = .slice A0 nm.length c0 ∧ e 2 = .func (.func 130) #[] #[] ∧ e 8 = .int .i64 fs.length ∧ ∃ lo hi : Nat, e 9 = .int .i64 lo ∧ e 10 = .int .i64 hi ∧ hi - lo ≤ m ∧ lo ≤ i0 ∧ i0 ≤ hi ∧ hi ≤ fs.length ∧ St W.heap.size W w []) fs.length
      ⟨rfl, rfl, rfl, rfl, 0, fs.length, rfl, rfl, by omega, by omega, hi.le, by omega, H⟩ ?_
  rintro m e w ⟨h0, h1, h2, h8, lo, hh, h9, h10, hm, hlo, hhi, hle, H⟩
  rw [Env.six h0 h1 h2 h8 h9 h10]
  refine ifB (fun c0 => ?_) (fun c0 => ?_)
  · refine ar64 (by omega) (by omega) ?_
    refine aru64 (by omega) (by omega) ?_
    refine shrR (d := 2) rfl (by decide) ?_
    refine ar64 (by omega) (by omega) ?_
    obtain ⟨q, hq⟩ : ∃ q, q = (lo + hh) / 2 := ⟨_, rfl⟩
    have hql : q < fs.length := by omega
    obtain ⟨f, hf⟩ : ∃ f, fs[q]? = some f := ⟨_, List.getElem?_eq_getElem hql⟩
    have hfm : f ∈ fs := List.mem_of_getElem? hf
    have hbf := hb f hfm
    have k1 := hx.kids f hfm
    have hlo1 := hi.lo q f hf
    have hhi1 := hi.hi q f hf
    obtain ⟨nv, dv, fm, dt, sf⟩ := f
    obtain ⟨_, A1, c1, e1, _⟩ := id k1.1
    obtain ⟨_, A2, c2, e2, _⟩ := id k1.2
    dsimp only at *
    subst e1 e2
    refine idxCI (cells := FileG.cells) q (by omega) FileG.cells_len (hx.ext H.below).row hf hql fun b off hc => ?_
    refine loadS (v := .slice A1 fm.length c1) (hc 0 _ rfl) ?_
    refine loadS (v := .slice A2 dt.length c2) (hc 1 _ rfl) ?_
    refine loadS (v := .int .i64 sf) (hc 2 _ rfl) ?_
    refine callV ok_find1 (impl_find1 hbf hn (k1.1.ext H.below) (hv.ext H.below) ⟨_, _, _, rfl⟩) H fun w H => ?_
    refine ifB (fun c0 => ?_) (fun c0 => ?_)
    · refine ar64 (by omega) (by omega) ?_
      have := fun h => hhi1 h
      exact Exists.intro (m - 1) (And.intro (by omega) ⟨rfl, rfl, rfl, rfl, q + 1, hh, congrArg (Value.int .i64) (by omega : ((lo : Int) + hh) / 2 + 1 = ((q + 1 : Nat) : Int)), rfl, by omega, by omega, by omega, by omega, H⟩)
    · exact Exists.intro (m - 1) (And.intro (by omega) ⟨rfl, rfl, rfl, rfl, lo, q, rfl, congrArg (Value.int .i64) (by omega : ((lo : Int) + hh) / 2 = ((q : Nat) : Int)), by omega, by omega, by omega, by omega, H⟩)
  · refine RegV.mk ?_
    refine gT (fun c6 => ?_) (fun c6 => ?_)
    · obtain rfl : lo = i0 := by omega
      have hql : lo < fs.length := by omega
      obtain ⟨f, hf⟩ : ∃ f, fs[lo]? = some f := ⟨_, List.getElem?_eq_getElem hql⟩
      have hfm : f ∈ fs := List.mem_of_getElem? hf
      have hbf := hb f hfm
      have k1 := hx.kids f hfm
      have hh1 : hitF fs nm lo = decide (cmpB f.nm nm = 0) := by unfold hitF; rw [hf]
      rw [hh1]
      obtain ⟨nv, dv, fm, dt, sf⟩ := f
      obtain ⟨_, A1, c1, e1, _⟩ := id k1.1
      obtain ⟨_, A2, c2, e2, _⟩ := id k1.2
      dsimp only at *
      subst e1 e2
      refine idxCI (cells := FileG.cells) lo (by omega) FileG.cells_len (hx.ext H.below).row hf hql fun b off hc => ?_
      refine loadS (v := .slice A1 fm.length c1) (hc 0 _ rfl) ?_
      refine loadS (v := .slice A2 dt.length c2) (hc 1 _ rfl) ?_
      refine loadS (v := .int .i64 sf) (hc 2 _ rfl) ?_
      refine callV ok_find1 (impl_find1 hbf hn (k1.1.ext H.below) (hv.ext H.below) ⟨_, _, _, rfl⟩) H fun w H => ?_
      exact Exists.intro _ (And.intro rfl (And.intro rfl H.none))
    · obtain rfl : lo = i0 := by omega
      have hh1 : hitF fs nm lo = false := by unfold hitF; rw [List.getElem?_eq_none (by omega)]
      rw [hh1]
      exact Exists.intro _ (And.intro rfl (And.intro rfl H.none))
theorem ok_find : callOK Try.prog 110 = true := by kernel_rfl
theorem impl_find {g : Nat} {fs : List FileG} {nm : List Int} {A : Option Addr} {n c : Nat} {v : Value} {i0 : Nat} {W : World} (hg : W.cell? ⟨g, 0, none⟩ = some (.slice A n c)) (hx : RdF W (.slice A n c) n fs) (hl : n ≤ 4294967296) (hb : ∀ f ∈ fs, byteOK f.nm) (hv : RdB W v nm) (hn : byteOK nm) (hi : LowF fs nm i0) :
    GivesV Try.prog 110 [.pointer (some ⟨g, 0, none⟩), v] W (.tuple #[.int .i64 i0, .bool (hitF fs nm i0)]) := by
  have H := St.enter W
  obtain ⟨_, A0, c0, rfl, _⟩ := id hv
  refine calls_of_vcV (args := [.pointer (some ⟨g, 0, none⟩), .slice A0 nm.length c0]) Try.func110 rfl (by kernel_rfl) (Nat.le_of_ble_eq_true rfl) ?_
  refine loadS (v := .slice A n c) ((HeldW.ofBelow H.below).cell hg) ?_
  refine callV ok_bsf (slices_BSF (hx.ext H.below) hl hb (hv.ext H.below) hn hi) H fun w H => ?_
  exact Exists.intro _ (And.intro rfl (And.intro rfl H.none))
theorem ok_file : callOK Try.prog 107 = true := by kernel_rfl
theorem impl_file_no {g : Nat} {fs : List FileG} {nm : List Int} {A : Option Addr} {n c : Nat} {v : Value} {i0 : Nat} {W : World} (hg : W.cell? ⟨g, 0, none⟩ = some (.slice A n c)) (hx : RdF W (.slice A n c) n fs) (hl : n ≤ 4294967296) (hb : ∀ f ∈ fs, byteOK f.nm) (hv : RdB W v nm) (hn : byteOK nm) (hi : LowF fs nm i0) (hh : hitF fs nm i0 = false) :
    GivesV Try.prog 107 [.pointer (some ⟨g, 0, none⟩), v] W (.tuple #[.pointer none, .iface 138 (.int .i64 5)]) := by
  have H := St.enter W
  obtain ⟨_, A0, c0, rfl, _⟩ := id hv
  refine calls_of_vcV (args := [.pointer (some ⟨g, 0, none⟩), .slice A0 nm.length c0]) Try.func107 rfl (by kernel_rfl) (Nat.le_of_ble_eq_true rfl) ?_
  refine callV (u := .tuple #[.int .i64 i0, .bool false]) ok_find (by rw [← hh]; exact impl_find hg hx hl hb hv hn hi) H fun w H => ?_
  refine ifNot ?_
  refine ifF ?_
  exact Exists.intro _ (And.intro rfl (And.intro rfl H.none))
theorem hitF_lt {fs : List FileG} {nm : List Int} {i0 : Nat} (h : hitF fs nm i0 = true) : i0 < fs.length := by
  unfold hitF at h
  rcases Nat.lt_or_ge i0 fs.length with q | q
  · exact q
  · rw [List.getElem?_eq_none q] at h; cases h
theorem impl_file {g : Nat} {fs : List FileG} {nm : List Int} {b off : Nat} {n c : Nat} {v : Value} {i0 : Nat} {W : World} (hg : W.cell? ⟨g, 0, none⟩ = some (.slice (some ⟨b, off, none⟩) n c)) (hx : RdF W (.slice (some ⟨b, off, none⟩) n c) n fs) (hl : n ≤ 4294967296) (hb : ∀ f ∈ fs, byteOK f.nm) (hv : RdB W v nm) (hn : byteOK nm) (hi : LowF fs nm i0) (hh : hitF fs nm i0 = true) :
    GivesV Try.prog 107 [.pointer (some ⟨g, 0, none⟩), v] W (.tuple #[.pointer (some ⟨b, off + i0 * 3, none⟩), .nilIface]) := by
  have H := St.enter W
  obtain ⟨_, A0, c0, rfl, _⟩ := id hv
  refine calls_of_vcV (args := [.pointer (some ⟨g, 0, none⟩), .slice A0 nm.length c0]) Try.func107 rfl (by kernel_rfl) (Nat.le_of_ble_eq_true rfl) ?_
  refine callV (u := .tuple #[.int .i64 i0, .bool true]) ok_find (by rw [← hh]; exact impl_find hg hx hl hb hv hn hi) H fun w H => ?_
  refine ifNot ?_
  refine ifT ?_
  refine loadS (v := .slice (some ⟨b, off, none⟩) n c) ((HeldW.ofBelow H.below).cell hg) ?_
  have hi0 := hitF_lt hh
  have hlen := hx.len
  refine IdxS.mk ⟨by omega, by omega, b, off, rfl, ?_⟩
  exact Exists.intro _ (And.intro rfl (And.intro rfl H.none))
end Go.Proofs.YtfhpgfbakimmhaaE
