/- FsRead: the program's side. -/
import Derived.Test.YtfhpgfbakimmhaaPFile
import Derived.Test.YtfhpgfbakimmhaaTCode
namespace Go.Proofs.YtfhpgfbakimmhaaE
open Go Go.RowKit
set_option linter.unusedVariables false
set_option maxRecDepth 100000
set_option maxHeartbeats 2000000

theorem mem_p {gs fs : List FileG} (h : gs.map FileG.p = fs.map FileG.p) {g : FileG} (hg : g ∈ gs) : ∃ f ∈ fs, f.p = g.p := by
  have : g.p ∈ fs.map FileG.p := by rw [← h]; exact List.mem_map_of_mem hg
  obtain ⟨f, hf, e⟩ := List.mem_map.1 this
  exact ⟨f, hf, e⟩
theorem small_p {gs fs : List FileG} (h : gs.map FileG.p = fs.map FileG.p) (hs : ∀ f ∈ fs, SmallF f) : ∀ f ∈ gs, SmallF f := by
  intro g hg
  obtain ⟨f, hf, e⟩ := mem_p h hg
  have hs := hs f hf
  have e1 : f.nm = g.nm := congrArg FileP.nm e
  have e2 : f.dt = g.dt := congrArg FileP.dt e
  exact ⟨e1 ▸ hs.nm, e2 ▸ hs.dt⟩
theorem byte_p {gs fs : List FileG} (h : gs.map FileG.p = fs.map FileG.p) (hb : ∀ f ∈ fs, byteOK f.nm) : ∀ f ∈ gs, byteOK f.nm := by
  intro g hg
  obtain ⟨f, hf, e⟩ := mem_p h hg
  have e1 : f.nm = g.nm := congrArg FileP.nm e
  exact e1 ▸ hb f hf
theorem cell0 {B : Nat} {W0 w : World} {L : List It} (H : St B W0 w L) (i : Nat) {g off : Nat} {cs : List Value} {t : TypeId} {z : Nat × Nat} {v : Value} (hi : L[i]? = some (.obj g (.cells cs.toArray t z))) (hv : cs[off]? = some v) : w.cell? ⟨g, off, none⟩ = some v := by
  have := (H.obj i hi).2
  simp only [World.cell?, this, Option.isSome_none, Bool.false_eq_true, if_false]
  simpa using hv
theorem RdF.addr {w : World} {A : Option Addr} {n c : Nat} {fs : List FileG} (h : RdF w (.slice A n c) n fs) (hp : 0 < n) : ∃ b off, A = some ⟨b, off, none⟩ := by
  obtain ⟨A', c', e, _, q⟩ := h.row.ex
  cases e
  rcases q with q | ⟨b, off, e, _⟩
  · omega
  · exact ⟨b, off, e⟩
theorem ok_implFsRead : callOK Try.prog 22 = true := by kernel_rfl
theorem impl_FsRead {fs : List FileG} {A A0 : Option Addr} {n n0 c c0 : Nat} {nm : List Int} {W : World} (hx : RdF W (.slice A n c) n fs) (hl : n ≤ 4294967296) (hs : ∀ f ∈ fs, SmallF f) (hb : ∀ f ∈ fs, byteOK f.nm) (hv : RdB W (.slice A0 n0 c0) nm) (hn : byteOK nm) :
    Calls Try.prog 22 #[.agg #[.slice A n c], .slice A0 n0 c0] W fun e w => ∃ x, e = .returned (.tuple #[x, .int .i64 (readF (fs.map FileG.p) nm).2]) ∧ OwnB w W.heap.size x (readF (fs.map FileG.p) nm).1 ∧ Below W.heap.size W w := by
  have H := St.enter W
  obtain rfl := hx.len
  obtain rfl : n0 = nm.length := by obtain ⟨_, _, _, e, _⟩ := id hv; cases e; rfl
  obtain ⟨r, hr⟩ : ∃ r, readF (fs.map FileG.p) nm = r := ⟨_, rfl⟩
  rw [hr]
  refine calls_of_vcV (args := [.agg #[.slice A fs.length c], .slice A0 nm.length c0]) Try.func22 rfl (by kernel_rfl) (Nat.le_of_ble_eq_true rfl) ?_
  refine newR (o := .cells #[.slice A fs.length c] _) H fun g0 w H => ?_
  refine RegV.mk ?_
  refine loadO H 0 rfl rfl ?_
  refine callV ok_impl_ValidFs (impl_ValidFs (hx.ext H.below) hl hs hb) H fun w H => ?_
  refine gNot ?_
  refine gT (fun c5 => ?_) (fun c5 => ?_)
  · refine callV ok_goodFsName (impl_goodFsName _) H fun w H => ?_
    refine ifNot ?_
    refine ifB (fun c8 => ?_) (fun c8 => ?_)
    · refine loadO H 0 rfl rfl ?_
      have hv5 : validF (fs.map FileG.p) = true := decide_eq_true c5
      refine CallS.mk ok_memoryOf ((impl_memoryOf (hx.ext H.below) hl hs).mono ?_)
      rintro _ w2 ⟨g, A', c', gs, rfl, hg, H2⟩
      have H := H.joinL H2 (own_all (.slice A' fs.length c') 69 fs.length (gs.flatMap FileG.cells) gs)
      have hx2 : RdF w2 (.slice A' fs.length c') fs.length gs := H.rdFo (e := 69) (List.mem_cons_of_mem _ (List.mem_cons_of_mem _ List.mem_cons_self)) fun it hit => List.mem_cons_of_mem _ (List.mem_cons_of_mem _ (List.mem_cons_of_mem _ hit))
      have hc2 : w2.cell? ⟨g, 0, none⟩ = some (.slice A' fs.length c') := cell0 H 1 rfl rfl
      rw [← hg] at hv5 hr
      have hs2 := small_p hg hs
      have hb2 := byte_p hg hb
      have hsrt := sorted_of_valid hv5
      obtain ⟨i0, hi0⟩ := low_of hsrt nm
      cases hh : hitF gs nm i0 with
      | false =>
        rw [readF_none ⟨hv5, c8⟩ (hit_none hsrt hi0 hh)] at hr
        subst hr
        refine callV ok_read (impl_read_no hc2 hx2 hl hb2 (hv.ext H.below) hn hi0 hh) H fun w H => ?_
        refine callV ok_codeOf (impl_codeOf (.inr ⟨rfl, by decide⟩)) H fun w H => ?_
        exact Exists.intro _ (And.intro rfl (And.intro (World.ownsRow_nil _ _ _ _) H.below))
      | true =>
        obtain ⟨f, hf, _, hfind⟩ := hit_some hi0 hh
        rw [readF_some ⟨hv5, c8⟩ hfind] at hr
        subst hr
        obtain ⟨b, off, rfl⟩ := hx2.addr (by have := hitF_lt hh; have := hx2.len; omega)
        refine callRow2 ok_read (impl_read hc2 hx2 hl hs2 hb2 (hv.ext H.below) hn hi0 hf hh) H fun A4 k4 w H => ?_
        refine callV ok_codeOf (impl_codeOf (.inl ⟨rfl, rfl⟩)) H fun w H => ?_
        exact Exists.intro _ (And.intro rfl (And.intro (H.own 0 rfl) H.below))
    · subst hr
      rw [readF_bad fun q => c8 q.2]
      exact Exists.intro _ (And.intro rfl (And.intro (World.ownsRow_nil _ _ _ _) H.below))
  · refine ifT ?_
    subst hr
    rw [readF_bad fun q => c5 (of_decide_eq_true q.1)]
    exact Exists.intro _ (And.intro rfl (And.intro (World.ownsRow_nil _ _ _ _) H.below))
end Go.Proofs.YtfhpgfbakimmhaaE
