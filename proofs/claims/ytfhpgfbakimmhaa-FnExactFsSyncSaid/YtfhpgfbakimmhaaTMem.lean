/- The program's list of files of its own: memoryOf. -/
import Derived.Test.YtfhpgfbakimmhaaTFsRead
namespace Go.Proofs.YtfhpgfbakimmhaaE
open Go Go.RowKit
set_option linter.unusedVariables false
set_option maxRecDepth 100000
set_option maxHeartbeats 2000000

/-- append to an own row of whatever elements -/
theorem appRS {P : Program} {B : Nat} {W0 w : World} {L : List It} {t ty e : TypeId} {z : Value} {sz bytes n m : Nat} {v x : Value} {cs ds : List Value} {K : Value → World → Prop} (ht : P.underlying t = some (.slice e))
    (inf : (P.info? e).map (fun i => (i.zero, i.size, i.bytes)) = some (some z, sz, bytes)) (hzs : z.cells.size = sz) (hsz : 0 < sz) (hby : bytes ≤ 128) (H : St B W0 w L) (i : Nat) (hi : L[i]? = some (.row v e sz n cs)) (hx : Rd w x sz m ds) (h1 : ∀ u ∈ ds, u.oneCell' = true)
    (hm : n + m ≤ 1099511627776) (k : ∀ A c w', St B W0 w' (L.set i (.row (.slice A (n + m) c) e sz (n + m) (cs ++ ds))) → K (.slice A (n + m) c) w') : RunS P (Builtin.append_ #[t, t] ty #[v, x]) w K := by
  obtain ⟨i0, q1, q2, q3, q4⟩ := infoOf inf
  refine app_run ht q1 q2 q3 q4 hzs hsz (H.own i hi) hx h1 hm hby H.size fun v' w' ho hg hb => ?_
  have H' := app_turn H i hi ho hg hb
  obtain ⟨A, c, rfl⟩ := H'.mk1 i (get_set hi)
  exact k A c w' H'
theorem appF {B : Nat} {W0 w : World} {L : List It} {ty : TypeId} {n : Nat} {v x : Value} {fs : List FileG} (f : FileG) {K : Value → World → Prop} (H : St B W0 w L) (i : Nat) (hi : L[i]? = some (.rowF v n fs)) (hx : Rd w x 3 1 f.cells) (ho : f.cells.all Value.oneCell' = true)
    (hm : n + 1 ≤ 1099511627776) (k : ∀ A c w', St B W0 w' (L.set i (.rowF (.slice A (n + 1) c) (n + 1) (fs ++ [f]))) → K (.slice A (n + 1) c) w') : RunS Try.prog (Builtin.append_ #[27, 27] ty #[v, x]) w K :=
  appRS undFiles infFile rfl (by decide) (by decide) H i hi hx (List.all_eq_true.1 ho) hm fun A c w' H' => k A c w' (by
    have e : (fs ++ [f]).flatMap FileG.cells = fs.flatMap FileG.cells ++ f.cells := by simp
    unfold It.rowF; rw [e]; exact H')
theorem HeldW.step {w0 w1 w2 : World} (h : HeldW w0 w1) (hb : Below w1.heap.size w1 w2) : HeldW w0 w2 := ⟨fun k hk => by
  have h1 := h.block k hk
  have h2 : k < w1.heap.size := by
    rcases Nat.lt_or_ge k w1.heap.size with q | q
    · exact q
    · rw [Array.getElem?_eq_none q, Array.getElem?_eq_getElem hk] at h1; cases h1
  rw [hb.block k h2, h1]⟩
theorem callRowB {P : Program} {B : Nat} {W0 w : World} {L : List It} {f : FuncId} {args : List Value} {K : Value → World → Prop} {X : List PanicEntry → World → Prop} {e : TypeId} {sz n : Nat} {cs : List Value} (ok : callOK P f = true)
    (h : Calls P f args.toArray w fun e' w' => ∃ x, e' = .returned x ∧ w'.ownsRow w.heap.size e sz x n cs ∧ Below w.heap.size w w') (H : St B W0 w L) (k : ∀ A c w', Below w.heap.size w w' → St B W0 w' (.row (.slice A n c) e sz n cs :: L) → K (.slice A n c) w') : CallS P f args w K X :=
  CallS.mk ok (h.mono fun e' w' ⟨x, he, ho, hb⟩ => by
    subst he
    obtain ⟨A, c, rfl⟩ := own_val ho
    exact k A c w' hb (newRow H ho hb))
theorem litRB {P : Program} {B : Nat} {W0 w : World} {L : List It} {t e : TypeId} {m n sz : Nat} {parts : Array (Nat × Value)} {cs : List Value} {K : Value → World → Prop} (H : St B W0 w L) (hc : cs.length = n * sz) (hl : n ≤ 1099511627776) (hr : (Instr.buildSlice t m parts).run P w = .ok (.slice (some ⟨w.heap.size, 0, none⟩) n n) (w.alloc (.cells cs.toArray e)))
    (k : ∀ A c w', Below w.heap.size w w' → St B W0 w' (.row (.slice A n c) e sz n cs :: L) → K (.slice A n c) w') : RunS P (Instr.buildSlice t m parts) w K :=
  ⟨_, _, hr, k _ _ _ (alloc_below _ _) (newRow H (own_newR hc hl) (alloc_below _ _))⟩
theorem shuf6 {α : Type} (a b c d e f : α) (M : List α) : (a :: b :: c :: d :: e :: f :: M).Perm (c :: d :: e :: f :: (M ++ [b, a])) :=
  (List.perm_append_comm (l₁ := [a, b]) (l₂ := c :: d :: e :: f :: M)).trans (List.Perm.append_left (c :: d :: e :: f :: M) (List.Perm.swap _ _ _))
theorem ok_memoryOf : callOK Try.prog 64 = true := by kernel_rfl
theorem impl_memoryOf {fs : List FileG} {A : Option Addr} {n c : Nat} {W : World} (hx : RdF W (.slice A n c) n fs) (hl : n ≤ 4294967296) (hs : ∀ f ∈ fs, SmallF f) :
    Calls Try.prog 64 #[.agg #[.slice A n c]] W fun e w => ∃ g A' c' gs, e = .returned (.pointer (some ⟨g, 0, none⟩)) ∧ gs.map FileG.p = fs.map FileG.p ∧ St W.heap.size W w (.obj g (.cells #[.slice A' n c'] 134) :: .rowF (.slice A' n c') n gs :: gs.flatMap FileG.own) := by
  have H := (St.enter W).rowNil (e := 69) (sz := 3)
  obtain rfl := hx.len
  refine calls_of_vcV (args := [.agg #[.slice A fs.length c]]) Try.func64 rfl (by kernel_rfl) (Nat.le_of_ble_eq_true rfl) ?_
  refine newR (o := .cells #[.slice A fs.length c] _) H fun g0 w H => ?_
  refine RunS.mk ⟨.agg #[.slice none 0 0], w, by kernel_rfl, ?_⟩
  refine newR (o := .cells #[.slice none 0 0] _) H fun gm w H => ?_
  refine loadO H 1 rfl rfl ?_
  refine loopV (by kernel_rfl) (fun m e w => e 3 = .pointer (some ⟨gm, 0, none⟩) ∧ e 9 = .slice A fs.length c ∧ e 10 = .int .i64 fs.length ∧ ∃ (j : Nat) (gs : List FileG) (A1 : Option Addr) (kk : Nat), e 11 = .int .i64 j ∧ j + m = fs.length ∧ gs.map FileG.p = (fs.take j).map FileG.p ∧ gs.length = j ∧
      St W.heap.size W w (.obj g0 (.cells #[.slice A fs.length c] 29) :: .obj gm (.cells #[.slice A1 j kk] 134) :: .rowF (.slice A1 j kk) j gs :: gs.flatMap FileG.own)) fs.length
    ⟨rfl, rfl, rfl, 0, [], none, 0, rfl, by omega, rfl, rfl, H.sw2⟩ ?_
  rintro m e w ⟨h3, h9, h10, j, gs, A1, kk, h11, hj, hgs, hgl, H⟩
  rw [Env.four h3 h9 h10 h11]
  refine ifB (fun h => ?_) (fun h => ?_)
  case refine_2 =>
    obtain rfl : m = 0 := by omega
    obtain rfl : j = fs.length := by omega
    rw [List.take_length] at hgs
    exact Exists.intro gm (Exists.intro A1 (Exists.intro kk (Exists.intro gs (And.intro rfl (And.intro hgs H.tl)))))
  obtain ⟨m, rfl⟩ : ∃ m', m = m' + 1 := ⟨m - 1, by omega⟩
  have hjl : j < fs.length := by omega
  obtain ⟨f, hf⟩ : ∃ f, fs[j]? = some f := ⟨_, List.getElem?_eq_getElem hjl⟩
  have hfm : f ∈ fs := List.mem_of_getElem? hf
  have hss := hs f hfm
  have k1 := hx.kids f hfm
  obtain ⟨nv, dv, nm, dt, sf⟩ := f
  obtain ⟨_, A2, c2, e2, _⟩ := id k1.1
  obtain ⟨_, A3, c3, e3, _⟩ := id k1.2
  have hn1 := hss.nm
  have hn2 := hss.dt
  dsimp only at *
  subst e2 e3
  (refine idxC (cells := FileG.cells) FileG.cells_len (hx.ext H.below).row hf hjl fun b off hc => ?_)
  refine loadS (v := .slice A2 nm.length c2) (hc 0 _ rfl) ?_
  refine loadS (v := .slice A3 dt.length c3) (hc 1 _ rfl) ?_
  refine loadS (v := .int .i64 sf) (hc 2 _ rfl) ?_
  refine newR (o := .cells #[.slice none 0 0, .slice none 0 0, .int .i64 0] _) H fun g5 w H => ?_
  refine storeO H 0 rfl rfl rfl fun w H => ?_
  refine storeO H 0 rfl rfl rfl fun w H => ?_
  refine storeO H 0 rfl rfl rfl fun w H => ?_
  (refine regG [7, 10, 13, 14, 15, 18] [7, 10, 13, 14] [4, 6, 9, 12] [0, 1, 2, 3, 4, 5, 6, 8, 9, 11, 12, 7, 10, 13, 14, 15, 16, 17, 18] (by kernel_rfl) ?_)
  ((refine drawR H fun w H => ?_; have H0 := H; have hw := HeldW.refl w))
  refine loadO H0 2 rfl rfl ?_
  refine loadO H0 0 rfl rfl ?_
  refine loadO H0 0 rfl rfl ?_
  refine loadO H0 0 rfl rfl ?_
  refine callRowB ok_clone (slices_Clone (k1.1.ext H.below) (by omega)) H fun A4 k4 w hB H => ?_
  have hw := hw.step hB
  refine KeepS.mk ⟨hw, ?_⟩
  refine callRowB ok_clone (slices_Clone (k1.2.ext H.below) (by omega)) H fun A5 k5 w hB H => ?_
  have hw := hw.step hB
  refine KeepS.mk ⟨hw, ?_⟩
  refine RunS.mk ⟨.agg #[.slice A4 nm.length k4, .slice A5 dt.length k5, .int .i64 sf], w, by kernel_rfl, ?_⟩
  refine KeepS.mk ⟨hw, ?_⟩
  refine litRB (e := 69) (sz := 3) (n := 1) (cs := [.slice A4 nm.length k4, .slice A5 dt.length k5, .int .i64 sf]) H rfl (by decide) (by kernel_rfl) fun A6 k6 w hB H => ?_
  have hw := hw.step hB
  refine KeepS.mk ⟨hw, ?_⟩
  refine appF ⟨.slice A4 nm.length k4, .slice A5 dt.length k5, nm, dt, sf⟩ H 6 rfl (H.rd 0 rfl) rfl (by omega) fun A7 k7 w H => ?_
  refine storeO H 5 rfl rfl rfl fun w H => ?_
  refine arN (by omega) ?_
  refine Exists.intro m (And.intro (by omega) ⟨rfl, rfl, rfl, j + 1, gs ++ [⟨.slice A4 nm.length k4, .slice A5 dt.length k5, nm, dt, sf⟩], A7, k7, rfl, by omega, ?_, by simp [hgl], ?_⟩)
  · rw [List.map_append, hgs, List.take_add_one, hf, List.map_append]; rfl
  · have H1 := (St.perm H.tl (shuf6 _ _ _ _ _ _ _)).tl
    rw [List.flatMap_append, List.flatMap_cons, List.flatMap_nil, List.append_nil]
    exact H1
end Go.Proofs.YtfhpgfbakimmhaaE
