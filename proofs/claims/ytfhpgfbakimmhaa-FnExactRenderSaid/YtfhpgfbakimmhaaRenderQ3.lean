/- The program's docOf. -/
import Derived.Test.YtfhpgfbakimmhaaRenderQ2
import Derived.Test.YtfhpgfbakimmhaaPLay
import Derived.Laws.Small
namespace Go.Proofs.YtfhpgfbakimmhaaE
open Go Go.RowKit
set_option linter.unusedVariables false
set_option linter.unusedSimpArgs false
set_option maxRecDepth 100000
set_option maxHeartbeats 8000000

theorem undDocs : Try.prog.underlying 147 = some (.slice 102) := by kernel_rfl
theorem infDoc : (Try.prog.info? 102).map (fun i => (i.zero, i.size, i.bytes)) = some (some .nilIface, 1, 16) := by kernel_rfl
def dvals (Gs : List DocG) : List Value := (Gs.map DocG.v).reverse
theorem dvals_len (Gs : List DocG) : (dvals Gs).length = Gs.length := by simp [dvals]
abbrev It.rowD (v : Value) (Gs : List DocG) : It := .row v 102 1 Gs.length (dvals Gs)
theorem idxV {w : World} {A : Option Addr} {n c : Nat} {vals : List Value} {i : Int} {v : Value} {K : Nat → Nat → Prop} (k0 : Nat) (hi : i = (k0 : Int)) (h : Rd w (.slice A n c) 1 n vals) (hx : vals[k0]? = some v) (hn : k0 < n)
    (k : ∀ b off, w.cell? ⟨b, off + i.toNat * 1, none⟩ = some v → K b off) : IdxS A n i K := by
  subst hi
  refine idxR h (by omega) (by omega) fun b off hA hc => k b off ?_
  have := hc 0 (by omega)
  simp only [Nat.add_zero, Nat.mul_one, Int.toNat_natCast] at this ⊢
  rw [this]; exact hx
theorem dvals_get1 (A : DocG) (Q : List DocG) : (dvals (A :: Q))[Q.length]? = some A.v := by
  have : (Q.map DocG.v).reverse.length = Q.length := by simp
  simp only [dvals, List.map_cons, List.reverse_cons]
  rw [List.getElem?_append_right (by omega), this, Nat.sub_self]; rfl
theorem dvals_get2 (A B : DocG) (Q : List DocG) : (dvals (A :: B :: Q))[Q.length]? = some B.v ∧ (dvals (A :: B :: Q))[Q.length + 1]? = some A.v := by
  refine ⟨?_, dvals_get1 A (B :: Q)⟩
  have : (Q.map DocG.v).reverse.length = Q.length := by simp
  simp only [dvals, List.map_cons, List.reverse_cons, List.append_assoc]
  rw [List.getElem?_append_right (by omega), this, Nat.sub_self]; rfl
theorem twoG_of {Gs : List DocG} {st : List Ent} (h : Gs.map DocG.d = st.map Ent.d) (hl : 2 ≤ st.length) : ∃ A B Q a b q, Gs = A :: B :: Q ∧ st = a :: b :: q ∧ A.d = a.d ∧ B.d = b.d ∧ Q.length = q.length := by
  match Gs, st, h, hl with
  | A :: B :: Q, a :: b :: q, h, _ => simp only [List.map_cons, List.cons.injEq] at h; exact ⟨A, B, Q, a, b, q, rfl, rfl, h.1, h.2.1, by have := congrArg List.length h.2.2; simpa using this⟩
  | [], a :: q, h, _ => simp at h
  | [A], a :: b :: q, h, _ => simp at h
  | _, [], _, hl => simp at hl
  | _, [a], _, hl => simp at hl
theorem oneG_of {Gs : List DocG} {st : List Ent} (h : Gs.map DocG.d = st.map Ent.d) (hl : 1 ≤ st.length) : ∃ A Q a q, Gs = A :: Q ∧ st = a :: q ∧ A.d = a.d ∧ Q.length = q.length := by
  match Gs, st, h, hl with
  | A :: Q, a :: q, h, _ => simp only [List.map_cons, List.cons.injEq] at h; exact ⟨A, Q, a, q, rfl, rfl, h.1, by have := congrArg List.length h.2; simpa using this⟩
  | [], a :: q, h, _ => simp at h
  | _, [], _, hl => simp at hl
theorem DocG.v_if (D : DocG) : ∃ t v, D.v = .iface t v := by cases D <;> exact ⟨_, _, rfl⟩
theorem bTwo (A B : DocG) (w : World) : (Instr.build 162 #[(0, B.v), (1, A.v)]).run Try.prog w = .ok (.agg #[B.v, A.v]) w := by
  obtain ⟨t1, v1, e1⟩ := A.v_if
  obtain ⟨t2, v2, e2⟩ := B.v_if
  rw [e1, e2]; kernel_rfl
theorem bCat (A B : DocG) (w : World) : (Instr.build 164 #[(1, .agg #[B.v, A.v])]).run Try.prog w = .ok (.agg #[B.v, A.v]) w := by
  obtain ⟨t1, v1, e1⟩ := A.v_if
  obtain ⟨t2, v2, e2⟩ := B.v_if
  rw [e1, e2]; kernel_rfl
theorem bAlt (A B : DocG) (w : World) : (Instr.build 166 #[(1, .agg #[B.v, A.v])]).run Try.prog w = .ok (.agg #[B.v, A.v]) w := by
  obtain ⟨t1, v1, e1⟩ := A.v_if
  obtain ⟨t2, v2, e2⟩ := B.v_if
  rw [e1, e2]; kernel_rfl
theorem bOne (A : DocG) (w : World) : (Instr.build 117 #[(0, A.v)]).run Try.prog w = .ok (.agg #[A.v]) w := by
  obtain ⟨t1, v1, e1⟩ := A.v_if
  rw [e1]; kernel_rfl
theorem bNest (A : DocG) (n : Int) (w : World) : (Instr.build 169 #[(1, .agg #[A.v]), (2, .int .i64 n)]).run Try.prog w = .ok (.agg #[A.v, .int .i64 n]) w := by
  obtain ⟨t1, v1, e1⟩ := A.v_if
  rw [e1]; kernel_rfl
theorem bGroup (A : DocG) (n : Int) (w : World) : (Instr.build 119 #[(0, .agg #[A.v]), (1, .int .i64 n)]).run Try.prog w = .ok (.agg #[A.v, .int .i64 n]) w := by
  obtain ⟨t1, v1, e1⟩ := A.v_if
  rw [e1]; kernel_rfl
theorem bsDoc (D : DocG) (w : World) : (Instr.buildSlice 147 1 #[(0, D.v)]).run Try.prog w = .ok (.slice (some ⟨w.heap.size, 0, none⟩) 1 1) (w.alloc (.cells [D.v].toArray 102)) := by
  obtain ⟨t1, v1, e1⟩ := D.v_if
  rw [e1]; kernel_rfl
theorem dvals_step (Gs : List DocG) (k q : Nat) (hk : k ≤ Gs.length) (hq : q = Gs.length - k) (D : DocG) : (dvals Gs).take (q * 1) ++ [D.v] = dvals (D :: Gs.drop k) := by
  simp only [dvals, List.map_cons, List.reverse_cons, Nat.mul_one]
  rw [List.take_reverse, List.length_map, hq, show Gs.length - (Gs.length - k) = k by omega, List.map_drop]
theorem nvals_step (st : List Ent) (k q : Nat) (hk : k ≤ st.length) (hq : q = st.length - k) (e : Ent) : ((nvals st).map (Value.int .i64)).take (q * 1) ++ [e.d.nestD].map (Value.int .i64) = (nvals (e :: st.drop k)).map (.int .i64) := by
  simp only [nvals, List.map_cons, List.reverse_cons, Nat.mul_one]
  rw [← List.map_take, List.take_reverse, List.length_map, hq, show st.length - (st.length - k) = k by omega, List.map_append, List.map_drop]
  rfl
/-- what docOf answers -/
def DocRes (W : World) (r : Option (DocT × Nat)) (e : Ending) (w : World) : Prop :=
  match r with
  | some (d, g) => ∃ D : DocG, D.d = d ∧ e = .returned (.tuple #[D.v, .int .i64 g, .bool true]) ∧ D.Txt W ∧ St W.heap.size W w D.own
  | none => e = .returned (.tuple #[.nilIface, .int .i64 0, .bool false]) ∧ St W.heap.size W w []
theorem maxS {ts : Array TypeId} {t : TypeId} {k : IntKind} {x y : Int} {w : World} {K : Value → World → Prop} (h : K (.int k (if x < y then y else x)) w) : RunS Try.prog (Builtin.max_ ts t #[.int k x, .int k y]) w K := ⟨_, _, run_max_int2 _ ts t k k x y, h⟩
def EO (e : Env) (v5 v6 : Value) (g tot : Int) (pv lst : Value) (n j : Int) : Prop := e 5 = v5 ∧ e 6 = v6 ∧ e 7 = .int .i64 g ∧ e 8 = .int .i64 tot ∧ e 10 = pv ∧ e 26 = lst ∧ e 27 = .int .i64 n ∧ e 28 = .int .i64 j
theorem EO.eq {e : Env} {v5 v6 : Value} {g tot : Int} {pv lst : Value} {n j : Int} {a : Nat} {va : Value} (h : EO e v5 v6 g tot pv lst n j) (ha : e a = va) : e = ((((((((e.put 5 v5).put 6 v6).put 7 (.int .i64 g)).put 8 (.int .i64 tot)).put 10 pv).put 26 lst).put 27 (.int .i64 n)).put 28 (.int .i64 j)).put a va := by
  obtain ⟨h1, h2, h3, h4, h5, h6, h7, h8⟩ := h
  exact Env.nine h1 h2 h3 h4 h5 h6 h7 h8 ha
theorem EO.eq2 {e : Env} {v5 v6 : Value} {g tot : Int} {pv lst : Value} {n j : Int} {a0 a1 : Nat} {b0 b1 : Value} (h : EO e v5 v6 g tot pv lst n j) (k0 : e a0 = b0) (k1 : e a1 = b1) : e = ((((((((((e.put 5 v5).put 6 v6).put 7 (.int .i64 g)).put 8 (.int .i64 tot)).put 10 pv).put 26 lst).put 27 (.int .i64 n)).put 28 (.int .i64 j)).put a0 b0).put a1 b1) := by
  obtain ⟨h1, h2, h3, h4, h5, h6, h7, h8⟩ := h
  rw [Env.put_same h1, Env.put_same h2, Env.put_same h3, Env.put_same h4, Env.put_same h5, Env.put_same h6, Env.put_same h7, Env.put_same h8, Env.put_same k0, Env.put_same k1]
theorem EO.eq4 {e : Env} {v5 v6 : Value} {g tot : Int} {pv lst : Value} {n j : Int} {a0 a1 a2 a3 : Nat} {b0 b1 b2 b3 : Value} (h : EO e v5 v6 g tot pv lst n j) (k0 : e a0 = b0) (k1 : e a1 = b1) (k2 : e a2 = b2) (k3 : e a3 = b3) : e = ((((((((((((e.put 5 v5).put 6 v6).put 7 (.int .i64 g)).put 8 (.int .i64 tot)).put 10 pv).put 26 lst).put 27 (.int .i64 n)).put 28 (.int .i64 j)).put a0 b0).put a1 b1).put a2 b2).put a3 b3) := by
  obtain ⟨h1, h2, h3, h4, h5, h6, h7, h8⟩ := h
  rw [Env.put_same h1, Env.put_same h2, Env.put_same h3, Env.put_same h4, Env.put_same h5, Env.put_same h6, Env.put_same h7, Env.put_same h8, Env.put_same k0, Env.put_same k1, Env.put_same k2, Env.put_same k3]
theorem EO.eq5 {e : Env} {v5 v6 : Value} {g tot : Int} {pv lst : Value} {n j : Int} {a0 a1 a2 a3 a4 : Nat} {b0 b1 b2 b3 b4 : Value} (h : EO e v5 v6 g tot pv lst n j) (k0 : e a0 = b0) (k1 : e a1 = b1) (k2 : e a2 = b2) (k3 : e a3 = b3) (k4 : e a4 = b4) : e = (((((((((((((e.put 5 v5).put 6 v6).put 7 (.int .i64 g)).put 8 (.int .i64 tot)).put 10 pv).put 26 lst).put 27 (.int .i64 n)).put 28 (.int .i64 j)).put a0 b0).put a1 b1).put a2 b2).put a3 b3).put a4 b4) := by
  obtain ⟨h1, h2, h3, h4, h5, h6, h7, h8⟩ := h
  rw [Env.put_same h1, Env.put_same h2, Env.put_same h3, Env.put_same h4, Env.put_same h5, Env.put_same h6, Env.put_same h7, Env.put_same h8, Env.put_same k0, Env.put_same k1, Env.put_same k2, Env.put_same k3, Env.put_same k4]
def StepRes (W w : World) (p : PieceP) (j g : Nat) (st : List Ent) (Gs : List DocG) (R5 R6 : It) (v7 v13 v16 : Value) : Prop :=
  ∃ (g' : Nat) (e' : Ent) (q : List Ent) (D : DocG), stepM p j g st = some (g', e' :: q) ∧ OkPiece p ∧ D.d = e'.d ∧ D.Txt W ∧ v7 = .int .i64 g' ∧ v13 = .int .i64 e'.d.nestD ∧ v16 = D.v ∧ 0 ≤ e'.d.nestD ∧ e'.d.nestD ≤ 8000 ∧ g' ≤ g + 1 ∧ q = st.drop (arK p.kind) ∧ St W.heap.size W w (R5 :: R6 :: (D.own ++ (Gs.drop (arK p.kind)).flatMap DocG.own))
theorem step_leaf {W w : World} {p : PieceP} {j g : Nat} {st : List Ent} {Gs : List DocG} {R5 R6 : It} {Dr : List Int} (hDr : (nvals st).drop (st.length - arK p.kind) = Dr) (ha : arK p.kind = 0) (hop : OkPiece p) {D : DocG} (hD : D.d = leafD p) (hDt : D.Txt W) (H : St W.heap.size W w (R5 :: R6 :: (D.own ++ Gs.flatMap DocG.own))) :
    StepRes W w p j g st Gs R5 R6 (.int .i64 g) (.int .i64 (maxL Dr)) D.v := by
  subst hDr
  have hz := leaf_nest p
  refine ⟨g, ⟨leafD p, j⟩, st, D, by unfold stepM; rw [if_pos ha], hop, hD, hDt, rfl, ?_, rfl, by show 0 ≤ (leafD p).nestD; omega, by show (leafD p).nestD ≤ 8000; omega, by omega, by rw [ha]; rfl, by rw [ha]; exact H⟩
  rw [ha, Nat.sub_zero, nvals_drop0]
  show _ = Value.int .i64 (leafD p).nestD
  rw [hz]; rfl
theorem step_cat {W w : World} {p : PieceP} {j g : Nat} {st : List Ent} {Gs : List DocG} {R5 R6 : It} {Dr : List Int} (hDr : (nvals st).drop (st.length - arK p.kind) = Dr) (hk : p.kind = 6 ∨ p.kind = 9) (hop : OkPiece p) (hnn : ∀ e ∈ st, NnD e.d ∧ e.d.nestD ≤ 4000) {a b : Ent} {q : List Ent} {A B : DocG} {Q : List DocG} (hs : st = a :: b :: q) (hg : Gs = A :: B :: Q) (hA : A.d = a.d) (hB : B.d = b.d) (tA : A.Txt W) (tB : B.Txt W) {t : Nat} {D : DocG} (hDD : D = if p.kind = 6 then DocG.cat t B A else DocG.alt t B A)
    (H : St W.heap.size W w (R5 :: R6 :: (D.own ++ Q.flatMap DocG.own))) :
    StepRes W w p j g st Gs R5 R6 (.int .i64 g) (.int .i64 (maxL Dr)) D.v := by
  subst hDD
  subst hDr
  subst hs hg
  have ar : arK p.kind = 2 := by rcases hk with h | h <;> (rw [h]; rfl)
  have na := hnn a (by simp)
  have nb := hnn b (by simp)
  have a0 := na.1.nonneg
  have b0 := nb.1.nonneg
  refine ⟨g, ⟨if p.kind = 6 then .cat b.d a.d else .alt b.d a.d, b.s⟩, q, if p.kind = 6 then DocG.cat t B A else DocG.alt t B A, ?_, hop, ?_, ?_, rfl, ?_, rfl, ?_, ?_, by omega, by rw [ar]; rfl, by rw [ar]; exact H⟩
  · unfold stepM; rw [if_neg (by omega), if_neg (by omega)]
  · split <;> simp only [DocG.d, hA, hB]
  · split <;> exact ⟨tB, tA⟩
  · rw [ar]
    show Value.int .i64 (maxL ((nvals (a :: b :: q)).drop q.length)) = _
    rw [nvals_drop2]
    congr 1
    show (if (if (0 : Int) < b.d.nestD then b.d.nestD else 0) < a.d.nestD then a.d.nestD else (if (0 : Int) < b.d.nestD then b.d.nestD else 0)) = _
    have e1 : (if p.kind = 6 then DocT.cat b.d a.d else DocT.alt b.d a.d).nestD = max b.d.nestD a.d.nestD := by split <;> rfl
    rw [e1]; (repeat' split) <;> omega
  · split <;> (simp only [DocT.nestD]; omega)
  · split <;> (simp only [DocT.nestD]; omega)
theorem step_nest {W w : World} {p : PieceP} {j g : Nat} {st : List Ent} {Gs : List DocG} {R5 R6 : It} {Dr : List Int} (hDr : (nvals st).drop (st.length - arK p.kind) = Dr) (hk : p.kind = 7) (hn : 0 ≤ p.n ∧ p.n ≤ 4000) (hop : OkPiece p) (hnn : ∀ e ∈ st, NnD e.d ∧ e.d.nestD ≤ 4000) {a : Ent} {q : List Ent} {A : DocG} {Q : List DocG} (hs : st = a :: q) (hg : Gs = A :: Q) (hA : A.d = a.d) (tA : A.Txt W) {t : Nat}
    (H : St W.heap.size W w (R5 :: R6 :: ((DocG.nest t A p.n).own ++ Q.flatMap DocG.own))) :
    StepRes W w p j g st Gs R5 R6 (.int .i64 g) (.int .i64 (maxL Dr + p.n)) (DocG.nest t A p.n).v := by
  subst hDr
  subst hs hg
  have ar : arK p.kind = 1 := by rw [hk]; rfl
  have na := hnn a (by simp)
  have a0 := na.1.nonneg
  refine ⟨g, ⟨.nest a.d p.n, a.s⟩, q, DocG.nest t A p.n, ?_, hop, ?_, tA, rfl, ?_, rfl, ?_, ?_, by omega, by rw [ar]; rfl, by rw [ar]; exact H⟩
  · unfold stepM; rw [if_neg (by omega), if_pos ar]; simp only []; rw [if_pos hk]
  · simp only [DocG.d, hA]
  · rw [ar]
    show Value.int .i64 (maxL ((nvals (a :: q)).drop q.length) + p.n) = _
    rw [nvals_drop1]
    congr 1
    show (if (0 : Int) < a.d.nestD then a.d.nestD else 0) + p.n = _
    simp only [DocT.nestD]; split <;> omega
  · simp only [DocT.nestD]; omega
  · simp only [DocT.nestD]; omega
theorem step_group {W w : World} {p : PieceP} {j g : Nat} {st : List Ent} {Gs : List DocG} {R5 R6 : It} {Dr : List Int} (hDr : (nvals st).drop (st.length - arK p.kind) = Dr) (hk : p.kind = 8) (hop : OkPiece p) (hnn : ∀ e ∈ st, NnD e.d ∧ e.d.nestD ≤ 4000) {a : Ent} {q : List Ent} {A : DocG} {Q : List DocG} (hs : st = a :: q) (hg : Gs = A :: Q) (hA : A.d = a.d) (tA : A.Txt W) {t : Nat}
    (H : St W.heap.size W w (R5 :: R6 :: ((DocG.group t A g).own ++ Q.flatMap DocG.own))) :
    StepRes W w p j g st Gs R5 R6 (.int .i64 (g + 1 : Nat)) (.int .i64 (maxL Dr)) (DocG.group t A g).v := by
  subst hDr
  subst hs hg
  have ar : arK p.kind = 1 := by rw [hk]; rfl
  have na := hnn a (by simp)
  have a0 := na.1.nonneg
  refine ⟨g + 1, ⟨.group a.d g, a.s⟩, q, DocG.group t A g, ?_, hop, ?_, tA, rfl, ?_, rfl, ?_, ?_, by omega, by rw [ar]; rfl, by rw [ar]; exact H⟩
  · unfold stepM; rw [if_neg (by omega), if_pos ar]; simp only []; rw [if_neg (by omega)]
  · simp only [DocG.d, hA]
  · rw [ar]
    show Value.int .i64 (maxL ((nvals (a :: q)).drop q.length)) = _
    rw [nvals_drop1]
    congr 1
    show (if (0 : Int) < a.d.nestD then a.d.nestD else 0) = _
    simp only [DocT.nestD]; split <;> omega
  · exact a0
  · exact Int.le_trans na.2 (by decide)
theorem ok_docOf : callOK Try.prog 89 = true := by kernel_rfl
theorem impl_docOf {fs : List PieceG} {A : Option Addr} {n c : Nat} {W : World} (hx : RdPiece W (.slice A n c) n fs) (hl : n ≤ 4294967296) (hb : ∀ f ∈ fs, byteOK f.text ∧ f.text.length ≤ 4294967296) : Calls Try.prog 89 #[.slice A n c] W (DocRes W (validD (fs.map PieceG.p))) := by
  have H := ((St.enter W).rowNil (e := 3) (sz := 1)).rowNil (e := 102) (sz := 1)
  obtain rfl := hx.len
  obtain ⟨ps, hps⟩ : ∃ ps, fs.map PieceG.p = ps := ⟨_, rfl⟩
  have hpl : ps.length = fs.length := by rw [← hps, List.length_map]
  rw [hps]
  obtain ⟨r, hr⟩ : ∃ r, validD ps = r := ⟨_, rfl⟩
  rw [hr]
  have no : ∀ {w : World} {L : List It}, St W.heap.size W w L → validD ps = none → DocRes W r (.returned (.tuple #[.nilIface, .int .i64 0, .bool false])) w := fun H h => by rw [← hr, h]; exact ⟨rfl, H.none⟩
  refine calls_of_vcV (args := [.slice A fs.length c]) Try.func89 rfl (by kernel_rfl) (Nat.le_of_ble_eq_true rfl) ?_
  refine RegV.mk ?_
  refine gF (fun c1 => ?_) (fun c1 => ?_)
  · refine ifB (fun c2 => ?_) (fun c2 => ?_)
    · exact no H (validD_size (by omega))
    · refine loopW (by kernel_rfl) (fun m e w => e 26 = .slice A fs.length c ∧ e 27 = .int .i64 fs.length ∧ ∃ (j g : Nat) (st : List Ent) (Gs : List DocG) (A5 A6 : Option Addr) (c5 c6 : Nat), e 5 = .slice A5 Gs.length c5 ∧ e 6 = .slice A6 st.length c6 ∧ e 7 = .int .i64 g ∧ e 8 = .int .i64 (totalD (ps.take j)) ∧ e 28 = .int .i64 j ∧ j + m = fs.length ∧ run0 (ps.take j) = some (g, st) ∧ Gs.map DocG.d = st.map Ent.d ∧ (∀ D ∈ Gs, D.Txt W) ∧ (∀ e ∈ st, e.d.nestD ≤ 4000) ∧ (∀ p ∈ ps.take j, OkPiece p) ∧ totalD (ps.take j) ≤ 100000 ∧ g ≤ j ∧ st.length ≤ j ∧
          St W.heap.size W w (.rowD (.slice A5 Gs.length c5) Gs :: .row (.slice A6 st.length c6) 3 1 st.length ((nvals st).map (.int .i64)) :: Gs.flatMap DocG.own))
        (fun id e w => id = 0 ∧ ∃ (g : Nat) (st : List Ent) (Gs : List DocG) (A5 : Option Addr) (c5 : Nat), e 5 = .slice A5 Gs.length c5 ∧ e 7 = .int .i64 g ∧ run0 ps = some (g, st) ∧ Gs.map DocG.d = st.map Ent.d ∧ (∀ D ∈ Gs, D.Txt W) ∧ (∀ e ∈ st, e.d.nestD ≤ 4000) ∧ (∀ p ∈ ps, OkPiece p) ∧ totalD ps ≤ 100000 ∧ st.length ≤ fs.length ∧
          St W.heap.size W w (.rowD (.slice A5 Gs.length c5) Gs :: Gs.flatMap DocG.own)) fs.length
        ⟨rfl, rfl, 0, 0, [], [], none, none, 0, 0, rfl, rfl, rfl, rfl, rfl, by omega, rfl, rfl, by simp, by simp, by simp, Nat.zero_le _, Nat.le_refl _, Nat.le_refl _, H⟩ ?_ ?_
      · rintro m e w ⟨h26, h27, j, g, st, Gs, A5, A6, c5, c6, h5, h6, h7, h8, h28, hj, hrun, hgs, htx, hnd, hok, htot, hgj, hsj, H⟩
        rw [Env.seven h26 h27 h5 h6 h7 h8 h28]
        have hgl : Gs.length = st.length := by have := congrArg List.length hgs; simpa using this
        refine ifB (fun c3 => ?_) (fun c3 => ?_)
        case refine_2 =>
          have hall : ps.take j = ps := List.take_of_length_le (by omega)
          rw [hall] at hrun hok htot
          exact ⟨rfl, g, st, Gs, A5, c5, rfl, rfl, hrun, hgs, htx, hnd, hok, htot, by omega, H.sel (fun q => by simp only [cntL_append, cntL, List.cons_append, List.nil_append, List.set_cons_zero, List.set_cons_succ, List.flatMap_append, List.flatMap_cons, List.flatMap_nil, It.rowF, It.rowB, It.rowI, It.roB, It.roI]; omega)⟩
        obtain ⟨f, hf⟩ : ∃ f, fs[j]? = some f := ⟨_, List.getElem?_eq_getElem (by omega)⟩
        have hfm := List.mem_of_getElem? hf
        have hp := pieces_take hf
        rw [hps] at hp
        have hts := total_snoc hp
        have hsn := run_snoc hp
        rw [hrun] at hsn
        simp only at hsn
        have hbf := hb f hfm
        have hkf := hx.kids f hfm
        have htk : ps.take (j + 1) = ps.take j ++ [f.p] := by rw [List.take_add_one, hp]; rfl
        obtain ⟨A0, ct, e0⟩ := PieceG.shape hkf
        obtain ⟨textV, kind, text, nn⟩ := f
        dsimp only at hf hp hts hsn hbf hkf htk e0
        subst e0
        have hpm := List.mem_of_getElem? hp
        have bad : ∀ {w : World} {L : List It}, St W.heap.size W w L → ¬ OkPiece ⟨kind, text, nn⟩ → DocRes W r (.returned (.tuple #[.nilIface, .int .i64 0, .bool false])) w := fun H h => no H (validD_piece hpm h)
        have hft : totalD (ps.take (j + 1)) = totalD (ps.take j) + text.length := hts
        have hk2 : RdB W (.slice A0 text.length ct) text := hkf
        refine JoinV.mk ?_
        refine idxC (cells := PieceG.cells) PieceG.cells_len (hx.ext H.below).row hf (by omega) fun b off hc => ?_
        refine loadS (v := .int .i64 kind) (hc 0 _ rfl) ?_
        refine loadS (v := .slice A0 text.length ct) (hc 1 _ rfl) ?_
        refine loadS (v := .int .i64 nn) (hc 2 _ rfl) ?_
        refine newR (o := .cells #[.int .i64 0, .slice none 0 0, .int .i64 0] _) H fun g0 w H => ?_
        refine storeO H 0 rfl rfl rfl fun w H => ?_
        refine storeO H 0 rfl rfl rfl fun w H => ?_
        refine storeO H 0 rfl rfl rfl fun w H => ?_
        refine loadO H 0 rfl rfl ?_
        refine ar64 (by omega) (by omega) ?_
        obtain ⟨P, hP⟩ : ∃ P : It, It.obj g0 (.cells #[.int .i64 kind, .slice A0 text.length ct, .int .i64 nn] 96) = P := ⟨_, rfl⟩
        obtain ⟨R5, hR5⟩ : ∃ R5 : It, It.rowD (.slice A5 Gs.length c5) Gs = R5 := ⟨_, rfl⟩
        obtain ⟨R6, hR6⟩ : ∃ R6 : It, It.row (.slice A6 st.length c6) 3 1 st.length ((nvals st).map (.int .i64)) = R6 := ⟨_, rfl⟩
        have H1 : St W.heap.size W w (P :: R5 :: R6 :: Gs.flatMap DocG.own) := by subst hP hR5 hR6; exact H
        have H := H1
        clear H1
        obtain ⟨TT, hTT⟩ : ∃ TT : Int, (totalD (ps.take j) : Int) + (text.length : Int) = TT := ⟨_, rfl⟩
        rw [hTT]
        refine cutG (fun e w => EO e (.slice A5 Gs.length c5) (.slice A6 st.length c6) g TT (.pointer (some ⟨g0, 0, none⟩)) (.slice A fs.length c) fs.length j ∧ e 59 = .bool (decide ((kind ≠ 1 ∧ 0 < text.length) ∨ (kind ≠ 7 ∧ nn ≠ 0) ∨ 100000 < TT)) ∧ St W.heap.size W w (P :: R5 :: R6 :: Gs.flatMap DocG.own)) ?_ ?_
        · subst hP
          refine loadO H 0 rfl rfl ?_
          refine gT (fun c1 => ?_) (fun c1 => ?_)
          · refine loadO H 0 rfl rfl ?_
            refine gF (fun c3 => ?_) (fun c3 => ?_)
            · refine loadO H 0 rfl rfl ?_
              refine gT (fun c5 => ?_) (fun c5 => ?_)
              · refine loadO H 0 rfl rfl ?_
                refine gY ?_
                refine gF (fun c8 => ?_) (fun c8 => ?_)
                · refine ⟨⟨rfl, rfl, rfl, rfl, rfl, rfl, rfl, rfl⟩, congrArg Value.bool ?_, H⟩
                  (rw [Bool.eq_iff_iff]; simp only [decide_eq_true_eq, Bool.false_eq_true, true_iff, iff_true, false_iff, iff_false]; omega)
                · refine ⟨⟨rfl, rfl, rfl, rfl, rfl, rfl, rfl, rfl⟩, congrArg Value.bool ?_, H⟩
                  (rw [Bool.eq_iff_iff]; simp only [decide_eq_true_eq, Bool.false_eq_true, true_iff, iff_true, false_iff, iff_false]; omega)
              · refine gY ?_
                refine gY ?_
                refine ⟨⟨rfl, rfl, rfl, rfl, rfl, rfl, rfl, rfl⟩, congrArg Value.bool ?_, H⟩
                (rw [Bool.eq_iff_iff]; simp only [decide_eq_true_eq, Bool.false_eq_true, true_iff, iff_true, false_iff, iff_false]; omega)
            · refine gNot ?_
              refine gNt ?_
              refine gNf ?_
              refine ⟨⟨rfl, rfl, rfl, rfl, rfl, rfl, rfl, rfl⟩, congrArg Value.bool ?_, H⟩
              (rw [Bool.eq_iff_iff]; simp only [decide_eq_true_eq, Bool.false_eq_true, true_iff, iff_true, false_iff, iff_false]; omega)
          · refine gY ?_
            refine loadO H 0 rfl rfl ?_
            refine gT (fun c16 => ?_) (fun c16 => absurd c16 (by omega))
            refine loadO H 0 rfl rfl ?_
            refine gY ?_
            refine gF (fun c19 => ?_) (fun c19 => ?_)
            · refine ⟨⟨rfl, rfl, rfl, rfl, rfl, rfl, rfl, rfl⟩, congrArg Value.bool ?_, H⟩
              (rw [Bool.eq_iff_iff]; simp only [decide_eq_true_eq, Bool.false_eq_true, true_iff, iff_true, false_iff, iff_false]; omega)
            · refine ⟨⟨rfl, rfl, rfl, rfl, rfl, rfl, rfl, rfl⟩, congrArg Value.bool ?_, H⟩
              (rw [Bool.eq_iff_iff]; simp only [decide_eq_true_eq, Bool.false_eq_true, true_iff, iff_true, false_iff, iff_false]; omega)
        rintro e w ⟨hE, h59, H⟩
        rw [hE.eq h59]
        refine ifB (fun c0 => ?_) (fun c0 => ?_)
        · rcases c0 with ⟨a, b⟩ | ⟨a, b⟩ | a
          · exact bad H (fun q => by have := q.empty a; simp only at this; omega)
          · exact bad H (fun q => b (q.zero a))
          · exact no H (validD_total (j + 1) (by omega))
        have hem : kind ≠ 1 → text.length = 0 := fun h => by rcases Nat.eq_zero_or_pos text.length with q | q; exact q; exact absurd (.inl ⟨h, q⟩) c0
        have hze : kind ≠ 7 → nn = 0 := fun h => by by_cases q : nn = 0; exact q; exact absurd (.inr (.inl ⟨h, q⟩)) c0
        have htt : totalD (ps.take (j + 1)) ≤ 100000 := by
          by_cases q : 100000 < TT
          · exact absurd (.inr (.inr q)) c0
          · omega
        have harl := arK_le kind
        refine joinV (fun e w => EO e (.slice A5 Gs.length c5) (.slice A6 st.length c6) g TT (.pointer (some ⟨g0, 0, none⟩)) (.slice A fs.length c) fs.length j ∧ e 11 = .int .i64 (arK kind) ∧ St W.heap.size W w (P :: R5 :: R6 :: Gs.flatMap DocG.own)) rfl ?_ ?_
        · subst hP
          refine loadO H 0 rfl rfl ?_
          refine JoinV.mk ?_
          refine ifB (fun c2 => ?_) (fun c2 => ?_)
          · refine ifB (fun c3 => ?_) (fun c3 => absurd c3 (by omega))
            refine ⟨⟨rfl, rfl, rfl, rfl, rfl, rfl, rfl, rfl⟩, congrArg (Value.int .i64) ?_, H⟩
            unfold arK
            (repeat' split) <;> omega
          · refine ifB (fun c4 => ?_) (fun c4 => ?_)
            · refine ⟨⟨rfl, rfl, rfl, rfl, rfl, rfl, rfl, rfl⟩, congrArg (Value.int .i64) ?_, H⟩
              unfold arK
              (repeat' split) <;> omega
            · refine JoinV.mk ?_
              refine ifB (fun c6 => ?_) (fun c6 => ?_)
              · refine ifB (fun c7 => ?_) (fun c7 => absurd c7 (by omega))
                refine ⟨⟨rfl, rfl, rfl, rfl, rfl, rfl, rfl, rfl⟩, congrArg (Value.int .i64) ?_, H⟩
                unfold arK
                (repeat' split) <;> omega
              · refine ifB (fun c8 => ?_) (fun c8 => ?_)
                · refine ⟨⟨rfl, rfl, rfl, rfl, rfl, rfl, rfl, rfl⟩, congrArg (Value.int .i64) ?_, H⟩
                  unfold arK
                  (repeat' split) <;> omega
                · refine ⟨⟨rfl, rfl, rfl, rfl, rfl, rfl, rfl, rfl⟩, congrArg (Value.int .i64) ?_, H⟩
                  unfold arK
                  (repeat' split) <;> omega
        rintro e w ⟨hE, h11, H⟩
        rw [hE.eq h11]
        refine ar64 (by omega) (by omega) ?_
        refine ifB (fun c1 => ?_) (fun c1 => ?_)
        · exact no H (validD_run (j + 1) (by rw [hsn]; exact step_none (by show st.length < arK kind; omega)))
        · have hnl := nvals_len st
          have hks : arK kind ≤ st.length := by omega
          have r5 : ∀ {w : World} {L : List It}, St W.heap.size W w L → R5 ∈ L → Rd w (.slice A5 Gs.length c5) 1 Gs.length (dvals Gs) := fun H hm => by rw [← hR5] at hm; exact H.rdm hm rfl
          have q6 : (P :: R5 :: R6 :: Gs.flatMap DocG.own)[2]? = some (.row (.slice A6 st.length c6) 3 1 st.length ((nvals st).map (.int .i64))) := by rw [← hR6]; rfl
          refine CutS.own (sz := 1) (l := st.length - arK kind) (h := st.length) H 2 q6 (by show ((Gs.length : Int) - (arK kind : Int)) = _; omega) rfl (by omega) (Nat.le_refl _) fun A7 hA7 hx7 => ?_
          clear hx7
          obtain ⟨Dr, hDr⟩ : ∃ Dr, (nvals st).drop (st.length - arK kind) = Dr := ⟨_, rfl⟩
          have hcut : ∀ {w : World}, St W.heap.size W w (P :: R5 :: R6 :: Gs.flatMap DocG.own) → Rd w (.slice A7 (st.length - (st.length - arK kind)) (c6 - (st.length - arK kind))) 1 (st.length - (st.length - arK kind)) (Dr.map (.int .i64)) := fun H => by
            have := own_part (H.own 2 q6) (st.length - arK kind) st.length (by omega) (Nat.le_refl _)
            rw [← hA7, Nat.mul_one, Nat.mul_one, List.take_of_length_le (by rw [List.length_map]; omega), ← List.map_drop, hDr] at this
            exact this
          have hdl : Dr.length = arK kind := by rw [← hDr, List.length_drop, hnl]; omega
          have hq : st.length - (st.length - arK kind) = arK kind := by omega
          refine loopW (by kernel_rfl) (fun m e w => EO e (.slice A5 Gs.length c5) (.slice A6 st.length c6) g TT (.pointer (some ⟨g0, 0, none⟩)) (.slice A fs.length c) fs.length j ∧ e 12 = .int .i64 ((Gs.length : Int) - (arK kind : Int)) ∧ e 76 = .slice A7 (st.length - (st.length - arK kind)) (c6 - (st.length - arK kind)) ∧ e 77 = .int .i64 (st.length - (st.length - arK kind) : Nat) ∧ ∃ i : Nat, e 13 = .int .i64 (maxL (Dr.take i)) ∧ e 78 = .int .i64 i ∧ i + m = arK kind ∧ St W.heap.size W w (P :: R5 :: R6 :: Gs.flatMap DocG.own))
            (fun id e w => id = 3 ∧ EO e (.slice A5 Gs.length c5) (.slice A6 st.length c6) g TT (.pointer (some ⟨g0, 0, none⟩)) (.slice A fs.length c) fs.length j ∧ e 12 = .int .i64 ((Gs.length : Int) - (arK kind : Int)) ∧ e 13 = .int .i64 (maxL Dr) ∧ St W.heap.size W w (P :: R5 :: R6 :: Gs.flatMap DocG.own)) (arK kind)
            ⟨⟨rfl, rfl, rfl, rfl, rfl, rfl, rfl, rfl⟩, rfl, rfl, rfl, 0, rfl, rfl, by omega, H⟩ ?_ ?_
          · rintro m e w2 ⟨hE, h12, h76, h77, i, h13, h78, hi, H⟩
            rw [hE.eq5 h12 h76 h77 h13 h78]
            have hx8 := hcut H
            refine ifB (fun c2 => ?_) (fun c2 => ?_)
            · refine idxI hx8 (by omega) (by omega) fun b off hc => ?_
              refine loadS hc ?_
              refine maxS ?_
              refine arN (by omega) ?_
              refine Exists.intro (m - 1) (And.intro (by omega) ⟨⟨rfl, rfl, rfl, rfl, rfl, rfl, rfl, rfl⟩, rfl, rfl, rfl, i + 1, congrArg (Value.int .i64) ?_, rfl, by omega, H⟩)
              have hil : i < Dr.length := by omega
              rw [List.take_add_one, List.getElem?_eq_getElem hil]
              show _ = maxL (Dr.take i ++ [Dr[i]])
              rw [maxL_snoc]
              show (if maxL (Dr.take i) < Dr.getD i 0 then Dr.getD i 0 else maxL (Dr.take i)) = _
              rw [show Dr.getD i 0 = Dr[i] by rw [List.getD_eq_getElem?_getD, List.getElem?_eq_getElem hil]; rfl]
            · exact ⟨rfl, ⟨rfl, rfl, rfl, rfl, rfl, rfl, rfl, rfl⟩, rfl, congrArg (Value.int .i64) (by rw [List.take_of_length_le (by omega)]), H⟩
          · rintro id e w2 ⟨rfl, hE, h12, h13, H⟩
            rw [hE.eq2 h12 h13]
            have hnnd : ∀ e ∈ st, NnD e.d ∧ e.d.nestD ≤ 4000 := fun e he => ⟨(run_nn hok hrun (by simp)).1 e he, hnd e he⟩
            have okk : 0 ≤ kind → kind ≤ 9 → (kind = 1 → 10 ∉ text ∧ 0 ≤ tw text) → (kind = 7 → 0 ≤ nn) → OkPiece ⟨kind, text, nn⟩ := fun a b c d => ⟨⟨a, b⟩, c, hem, d, hze⟩
            refine joinV (fun e w => e 5 = .slice A5 Gs.length c5 ∧ e 6 = .slice A6 st.length c6 ∧ e 8 = .int .i64 TT ∧ e 12 = .int .i64 ((Gs.length : Int) - (arK kind : Int)) ∧ e 26 = .slice A fs.length c ∧ e 27 = .int .i64 fs.length ∧ e 28 = .int .i64 j ∧ StepRes W w ⟨kind, text, nn⟩ j g st Gs R5 R6 (e 7) (e 13) (e 16)) rfl ?_ ?_
            · subst hP
              refine loadO H 0 rfl rfl ?_
              refine ifB (fun c1 => ?_) (fun c1 => ?_)
              · refine RunS.mk ⟨.agg #[], w2, by kernel_rfl, ?_⟩
                refine newR (o := .cells #[] _) H fun g3 w H => ?_
                exact ⟨rfl, rfl, rfl, rfl, rfl, rfl, rfl, step_leaf (p := ⟨kind, text, nn⟩) (D := .nil _) hDr (by subst c1; rfl) (okk (by omega) (by omega) (fun h => by omega) (fun h => by omega)) (by subst c1; rfl) trivial (H.sel (fun q => by simp only [cntL_append, cntL, List.cons_append, List.nil_append, List.set_cons_zero, List.set_cons_succ, List.flatMap_append, List.flatMap_cons, List.flatMap_nil, It.rowB, It.rowI, It.roB, It.roI, DocG.own]; omega))⟩
              · refine ifB (fun c4 => ?_) (fun c4 => ?_)
                · refine loadO H 0 rfl rfl ?_
                  refine callV ok_TextWidth (impl_TextWidth hbf.1 hbf.2 (hk2.ext H.below)) H fun w H => ?_
                  refine RegV.mk ?_
                  refine gF (fun c8 => ?_) (fun c8 => ?_)
                  · refine loadO H 0 rfl rfl ?_
                    refine callV ok_IndexByte (bytes_IndexByte hbf.1 (by decide) (by decide) (hk2.ext H.below)) H fun w H => ?_
                    refine ifB (fun c11 => ?_) (fun c11 => ?_)
                    · exact bad H (fun q => (q.text c4).1 ((idxB_iff text 10).1.1 (by omega)))
                    · refine loadO H 0 rfl rfl ?_
                      refine RunS.mk ⟨.agg #[.slice A0 text.length ct, .int .i64 (cntP (ptsF text text.length 0) 0)], w, by kernel_rfl, ?_⟩
                      refine newR (o := .cells #[.slice A0 text.length ct, .int .i64 (cntP (ptsF text text.length 0) 0)] _) H fun g14 w H => ?_
                      exact ⟨rfl, rfl, rfl, rfl, rfl, rfl, rfl, step_leaf (p := ⟨kind, text, nn⟩) (D := .text _ (.slice A0 text.length ct) text) hDr (by subst c4; rfl) (okk (by omega) (by omega) (fun h => ⟨fun hm => c11 ((idxB_iff text 10).1.2 hm), by unfold tw; omega⟩) (fun h => by omega)) (by subst c4; rfl) hk2 (St.sel (M := R5 :: R6 :: ((DocG.text _ (.slice A0 text.length ct) text).own ++ Gs.flatMap DocG.own)) H (fun q => by simp only [cntL_append, cntL, List.cons_append, List.nil_append, List.set_cons_zero, List.set_cons_succ, List.flatMap_append, List.flatMap_cons, List.flatMap_nil, It.rowB, It.rowI, It.roB, It.roI, DocG.own, tw]; omega))⟩
                  · refine ifT ?_
                    exact bad H (fun q => by have := (q.text c4).2; unfold tw at this; simp only at this; omega)
                · refine JoinV.mk ?_
                  refine ifB (fun c17 => ?_) (fun c17 => ?_)
                  · refine ifB (fun c18 => ?_) (fun c18 => absurd c18 (by omega))
                    refine loadO H 0 rfl rfl ?_
                    refine RunS.mk ⟨.agg #[.int .i64 kind], w2, by kernel_rfl, ?_⟩
                    refine newR (o := .cells #[.int .i64 kind] _) H fun g21 w H => ?_
                    exact ⟨rfl, rfl, rfl, rfl, rfl, rfl, rfl, step_leaf (p := ⟨kind, text, nn⟩) (D := .line _ kind) hDr (by subst c17; rfl) (okk (by omega) (by omega) (fun h => by omega) (fun h => by omega)) (by subst c17; rfl) trivial (H.sel (fun q => by simp only [cntL_append, cntL, List.cons_append, List.nil_append, List.set_cons_zero, List.set_cons_succ, List.flatMap_append, List.flatMap_cons, List.flatMap_nil, It.rowB, It.rowI, It.roB, It.roI, DocG.own]; omega))⟩
                  · refine ifB (fun c22 => ?_) (fun c22 => ?_)
                    · refine ifB (fun c23 => ?_) (fun c23 => absurd c23 (by omega))
                      refine loadO H 0 rfl rfl ?_
                      refine RunS.mk ⟨.agg #[.int .i64 kind], w2, by kernel_rfl, ?_⟩
                      refine newR (o := .cells #[.int .i64 kind] _) H fun g26 w H => ?_
                      exact ⟨rfl, rfl, rfl, rfl, rfl, rfl, rfl, step_leaf (p := ⟨kind, text, nn⟩) (D := .line _ kind) hDr (by subst c22; rfl) (okk (by omega) (by omega) (fun h => by omega) (fun h => by omega)) (by subst c22; rfl) trivial (H.sel (fun q => by simp only [cntL_append, cntL, List.cons_append, List.nil_append, List.set_cons_zero, List.set_cons_succ, List.flatMap_append, List.flatMap_cons, List.flatMap_nil, It.rowB, It.rowI, It.roB, It.roI, DocG.own]; omega))⟩
                    · refine ifB (fun c27 => ?_) (fun c27 => ?_)
                      · refine ifB (fun c28 => ?_) (fun c28 => absurd c28 (by omega))
                        refine loadO H 0 rfl rfl ?_
                        refine RunS.mk ⟨.agg #[.int .i64 kind], w2, by kernel_rfl, ?_⟩
                        refine newR (o := .cells #[.int .i64 kind] _) H fun g31 w H => ?_
                        exact ⟨rfl, rfl, rfl, rfl, rfl, rfl, rfl, step_leaf (p := ⟨kind, text, nn⟩) (D := .line _ kind) hDr (by subst c27; rfl) (okk (by omega) (by omega) (fun h => by omega) (fun h => by omega)) (by subst c27; rfl) trivial (H.sel (fun q => by simp only [cntL_append, cntL, List.cons_append, List.nil_append, List.set_cons_zero, List.set_cons_succ, List.flatMap_append, List.flatMap_cons, List.flatMap_nil, It.rowB, It.rowI, It.roB, It.roI, DocG.own]; omega))⟩
                      · refine ifB (fun c32 => ?_) (fun c32 => ?_)
                        · refine loadO H 0 rfl rfl ?_
                          refine RunS.mk ⟨.agg #[.int .i64 kind], w2, by kernel_rfl, ?_⟩
                          refine newR (o := .cells #[.int .i64 kind] _) H fun g35 w H => ?_
                          exact ⟨rfl, rfl, rfl, rfl, rfl, rfl, rfl, step_leaf (p := ⟨kind, text, nn⟩) (D := .line _ kind) hDr (by subst c32; rfl) (okk (by omega) (by omega) (fun h => by omega) (fun h => by omega)) (by subst c32; rfl) trivial (H.sel (fun q => by simp only [cntL_append, cntL, List.cons_append, List.nil_append, List.set_cons_zero, List.set_cons_succ, List.flatMap_append, List.flatMap_cons, List.flatMap_nil, It.rowB, It.rowI, It.roB, It.roI, DocG.own]; omega))⟩
                        · refine ifB (fun c36 => ?_) (fun c36 => ?_)
                          · refine drawR H fun w H => ?_
                            have ar2 : arK kind = 2 := by rw [c36]; rfl
                            obtain ⟨A, B, Q, a, b, q, hg, hs, hA, hB, hQ⟩ := twoG_of hgs (by omega)
                            have hgl2 : Gs.length = Q.length + 2 := by rw [hg]; rfl
                            have dg := dvals_get2 A B Q
                            rw [← hg] at dg
                            refine idxV Q.length (by omega) (r5 H (by simp)) dg.1 (by omega) fun b1 off1 hc1 => ?_
                            refine loadS hc1 ?_
                            refine ar64 (by omega) (by omega) ?_
                            refine idxV (Q.length + 1) (by omega) (r5 H (by simp)) dg.2 (by omega) fun b2 off2 hc2 => ?_
                            refine loadS hc2 ?_
                            refine RunS.mk ⟨_, w, bTwo A B w, ?_⟩
                            refine RunS.mk ⟨_, w, bCat A B w, ?_⟩
                            refine newR H fun g0 w H => ?_
                            have hgf : Gs.flatMap DocG.own = A.own ++ (B.own ++ Q.flatMap DocG.own) := by rw [hg]; rfl
                            rw [hgf] at H
                            have H1 : St W.heap.size W w (.obj g0 (.cells #[B.v, A.v] 164) :: .obj _ (.cells #[.int .i64 kind, .slice A0 text.length ct, .int .i64 nn] 96) :: R5 :: R6 :: (A.own ++ (B.own ++ Q.flatMap DocG.own))) := H
                            have H := H1
                            exact ⟨rfl, rfl, rfl, rfl, rfl, rfl, rfl, step_cat (p := ⟨kind, text, nn⟩) (D := .cat _ B A) hDr (.inl c36) (okk (by omega) (by omega) (fun h => by omega) (fun h => by omega)) hnnd hs hg hA hB (htx A (by rw [hg]; simp)) (htx B (by rw [hg]; simp)) (by rw [if_pos (c36 : kind = 6)]) (H.sel (fun q => by simp only [cntL_append, cntL, List.cons_append, List.nil_append, List.set_cons_zero, List.set_cons_succ, List.flatMap_append, List.flatMap_cons, List.flatMap_nil, It.rowB, It.rowI, It.roB, It.roI, DocG.own]; omega))⟩
                          · refine ifB (fun c38 => ?_) (fun c38 => ?_)
                            · refine drawR H fun w H => ?_
                              have ar2 : arK kind = 2 := by rw [c38]; rfl
                              obtain ⟨A, B, Q, a, b, q, hg, hs, hA, hB, hQ⟩ := twoG_of hgs (by omega)
                              have hgl2 : Gs.length = Q.length + 2 := by rw [hg]; rfl
                              have dg := dvals_get2 A B Q
                              rw [← hg] at dg
                              refine idxV Q.length (by omega) (r5 H (by simp)) dg.1 (by omega) fun b1 off1 hc1 => ?_
                              refine loadS hc1 ?_
                              refine ar64 (by omega) (by omega) ?_
                              refine idxV (Q.length + 1) (by omega) (r5 H (by simp)) dg.2 (by omega) fun b2 off2 hc2 => ?_
                              refine loadS hc2 ?_
                              refine RunS.mk ⟨_, w, bTwo A B w, ?_⟩
                              refine RunS.mk ⟨_, w, bAlt A B w, ?_⟩
                              refine newR H fun g0 w H => ?_
                              have hgf : Gs.flatMap DocG.own = A.own ++ (B.own ++ Q.flatMap DocG.own) := by rw [hg]; rfl
                              rw [hgf] at H
                              have H1 : St W.heap.size W w (.obj g0 (.cells #[B.v, A.v] 166) :: .obj _ (.cells #[.int .i64 kind, .slice A0 text.length ct, .int .i64 nn] 96) :: R5 :: R6 :: (A.own ++ (B.own ++ Q.flatMap DocG.own))) := H
                              have H := H1
                              exact ⟨rfl, rfl, rfl, rfl, rfl, rfl, rfl, step_cat (p := ⟨kind, text, nn⟩) (D := .alt _ B A) hDr (.inr c38) (okk (by omega) (by omega) (fun h => by omega) (fun h => by omega)) hnnd hs hg hA hB (htx A (by rw [hg]; simp)) (htx B (by rw [hg]; simp)) (by rw [if_neg (show ¬ kind = 6 by omega)]) (H.sel (fun q => by simp only [cntL_append, cntL, List.cons_append, List.nil_append, List.set_cons_zero, List.set_cons_succ, List.flatMap_append, List.flatMap_cons, List.flatMap_nil, It.rowB, It.rowI, It.roB, It.roI, DocG.own]; omega))⟩
                            · refine ifB (fun c40 => ?_) (fun c40 => ?_)
                              · refine RegV.mk ?_
                                refine loadO H 0 rfl rfl ?_
                                refine gF (fun c43 => ?_) (fun c43 => ?_)
                                · refine loadO H 0 rfl rfl ?_
                                  refine ifB (fun c45 => ?_) (fun c45 => ?_)
                                  · obtain ⟨A, Q, a, q, hg, hs, hA, hQ⟩ := oneG_of hgs (by rw [c40] at hks; exact hks)
                                    have hst2 : run0 (ps.take (j + 1)) = some (g, ⟨.nest a.d nn, a.s⟩ :: q) := by
                                      rw [hsn, hs]
                                      show stepM ⟨kind, text, nn⟩ j g (a :: q) = _
                                      unfold stepM
                                      rw [if_neg (by rw [show (PieceP.mk kind text nn).kind = 7 from c40]; decide), if_pos (by rw [show (PieceP.mk kind text nn).kind = 7 from c40]; rfl)]
                                      simp only []
                                      rw [if_pos c40]
                                    have na := (hnnd a (by rw [hs]; simp)).1.nonneg
                                    exact no H (validD_deep hst2 (e := ⟨.nest a.d nn, a.s⟩) (by simp) (by show 4000 < nn + a.d.nestD; omega))
                                  · refine loadO H 0 rfl rfl ?_
                                    have ar2 : arK kind = 1 := by rw [c40]; rfl
                                    obtain ⟨A, Q, a, q, hg, hs, hA, hQ⟩ := oneG_of hgs (by omega)
                                    have hgl2 : Gs.length = Q.length + 1 := by rw [hg]; rfl
                                    have dg := dvals_get1 A Q
                                    rw [← hg] at dg
                                    have na := hnnd a (by rw [hs]; simp)
                                    have na0 := na.1.nonneg
                                    have hM : maxL Dr = a.d.nestD := by
                                      rw [← hDr, hs, ar2]
                                      show maxL ((nvals (a :: q)).drop q.length) = _
                                      rw [nvals_drop1]
                                      show (if (0 : Int) < a.d.nestD then a.d.nestD else 0) = _
                                      split <;> omega
                                    refine ar64 (by omega) (by omega) ?_
                                    refine regG [4, 7, 8, 9] [4] [3, 6] [0, 1, 2, 3, 5, 6, 4, 7, 8, 9, 10] (by kernel_rfl) ?_
                                    (refine drawR H fun w H => ?_; have hw := HeldW.refl w)
                                    refine idxV Q.length (by omega) (r5 H (by simp)) dg (by omega) fun b1 off1 hc1 => ?_
                                    refine loadS hc1 ?_
                                    refine loadO H 0 rfl rfl ?_
                                    refine RunS.mk ⟨_, _, bOne A _, ?_⟩
                                    refine KeepS.mk ⟨HeldW.refl _, ?_⟩
                                    refine RunS.mk ⟨_, _, bNest A nn _, ?_⟩
                                    refine newR (o := .cells #[A.v, .int .i64 nn] _) H fun gg w H => ?_
                                    have hgf : Gs.flatMap DocG.own = A.own ++ Q.flatMap DocG.own := by rw [hg]; rfl
                                    rw [hgf] at H
                                    have H1 : St W.heap.size W w (.obj gg (.cells #[A.v, .int .i64 nn] 169) :: .obj _ (.cells #[.int .i64 kind, .slice A0 text.length ct, .int .i64 nn] 96) :: R5 :: R6 :: (A.own ++ Q.flatMap DocG.own)) := H
                                    have H := H1
                                    exact ⟨rfl, rfl, rfl, rfl, rfl, rfl, rfl, step_nest (p := ⟨kind, text, nn⟩) hDr c40 ⟨by show 0 ≤ nn; omega, by show nn ≤ 4000; omega⟩ (okk (by omega) (by omega) (fun h => by omega) (fun h => by omega)) hnnd hs hg hA (htx A (by rw [hg]; simp)) (H.sel (fun q => by simp only [cntL_append, cntL, List.cons_append, List.nil_append, List.set_cons_zero, List.set_cons_succ, List.flatMap_append, List.flatMap_cons, List.flatMap_nil, It.rowB, It.rowI, It.roB, It.roI, DocG.own]; omega))⟩
                                · refine ifT ?_
                                  exact bad H (fun q => by have := q.nest c40; simp only at this; omega)
                              · refine ifB (fun c48 => ?_) (fun c48 => ?_)
                                · have ar2 : arK kind = 1 := by rw [c48]; rfl
                                  obtain ⟨A, Q, a, q, hg, hs, hA, hQ⟩ := oneG_of hgs (by omega)
                                  have hgl2 : Gs.length = Q.length + 1 := by rw [hg]; rfl
                                  have dg := dvals_get1 A Q
                                  rw [← hg] at dg
                                  refine idxV Q.length (by omega) (r5 H (by simp)) dg (by omega) fun b1 off1 hc1 => ?_
                                  refine loadS hc1 ?_
                                  refine RunS.mk ⟨_, _, bOne A _, ?_⟩
                                  refine RunS.mk ⟨_, _, bGroup A g _, ?_⟩
                                  refine newR (o := .cells #[A.v, .int .i64 g] _) H fun gg w H => ?_
                                  refine arN (by omega) ?_
                                  have hgf : Gs.flatMap DocG.own = A.own ++ Q.flatMap DocG.own := by rw [hg]; rfl
                                  rw [hgf] at H
                                  have H1 : St W.heap.size W w (.obj gg (.cells #[A.v, .int .i64 g] 119) :: .obj _ (.cells #[.int .i64 kind, .slice A0 text.length ct, .int .i64 nn] 96) :: R5 :: R6 :: (A.own ++ Q.flatMap DocG.own)) := H
                                  have H := H1
                                  exact ⟨rfl, rfl, rfl, rfl, rfl, rfl, rfl, step_group (p := ⟨kind, text, nn⟩) hDr c48 (okk (by omega) (by omega) (fun h => by omega) (fun h => by omega)) hnnd hs hg hA (htx A (by rw [hg]; simp)) (H.sel (fun q => by simp only [cntL_append, cntL, List.cons_append, List.nil_append, List.set_cons_zero, List.set_cons_succ, List.flatMap_append, List.flatMap_cons, List.flatMap_nil, It.rowB, It.rowI, It.roB, It.roI, DocG.own]; omega))⟩
                                · exact bad H (fun q => by have := q.kind; simp only at this; omega)
            · rintro e w3 ⟨h5, h6, h8, h12, h26, h27, h28, g', e', q, D, hst, hop, hD, hDt, h7, h13, h16, hn0, hn1, hg1, hq2, H⟩
              rw [Env.ten h5 h6 h8 h12 h26 h27 h28 h7 h13 h16]
              have hst2 : run0 (ps.take (j + 1)) = some (g', e' :: q) := hsn.trans hst
              refine ifB (fun c4 => ?_) (fun c4 => ?_)
              · exact no H (validD_deep hst2 (e := e') (by simp) (by omega))
              have hql : q.length = st.length - arK kind := by rw [hq2, List.length_drop]
              have hGl : (Gs.drop (arK kind)).length = q.length := by rw [List.length_drop, hql]; omega
              refine cutReg (fun e w => e 26 = .slice A fs.length c ∧ e 27 = .int .i64 fs.length ∧ e 28 = .int .i64 j ∧ e 7 = .int .i64 g' ∧ e 8 = .int .i64 TT ∧ ∃ A8 c8 A9 c9, e 5 = .slice A8 (q.length + 1) c8 ∧ e 6 = .slice A9 (q.length + 1) c9 ∧ St W.heap.size W w (.row (.slice A8 (q.length + 1) c8) 102 1 (q.length + 1) (((dvals Gs).take (q.length * 1)) ++ [D.v]) :: .row (.slice A9 (q.length + 1) c9) 3 1 (q.length + 1) ((((nvals st).map (Value.int .i64)).take (q.length * 1)) ++ [e'.d.nestD].map (Value.int .i64)) :: (D.own ++ (Gs.drop (arK kind)).flatMap DocG.own))) ?_ ?_
              · subst hR5 hR6
                obtain ⟨tD, vD, eD⟩ := D.v_if
                have hco : ∀ u ∈ [D.v], u.oneCell' = true := fun u hu => by rw [List.mem_singleton.1 hu, eD]; rfl
                have hci : ∀ u ∈ [e'.d.nestD].map (Value.int .i64), u.oneCell' = true := fun u hu => by rw [List.mem_singleton.1 hu]; rfl
                refine regT [4, 5, 10, 11] [] [] (PT.of [0, 1, 2, 3, 6, 7, 8, 9] (.fork (PT.of [4] (.fork (PT.of [5, 10, 11, 12, 13] .nil) (PT.of [10, 5, 11, 12, 13] .nil))) (PT.of [10, 4, 5, 11, 12, 13] .nil))) (by kernel_rfl) ?_
                refine drawR H fun w H => ?_
                refine cutRow (sz := 1) (h := q.length) H 0 rfl rfl (by show ((Gs.length : Int) - (arK kind : Int)) = _; omega) (by omega) fun H => ?_
                refine cutRow (sz := 1) (h := q.length) H 1 rfl rfl (by show ((Gs.length : Int) - (arK kind : Int)) = _; omega) (by omega) fun H => ?_
                refine ForkS.mk ⟨?_, ?_⟩
                · refine litRB (e := 102) (sz := 1) (n := 1) (cs := [D.v]) H rfl (by decide) (bsDoc D w) fun A10 c10 w hB H => ?_
                  refine ForkS.mk ⟨?_, ?_⟩
                  · refine appRS undDocs infDoc rfl (by decide) (by decide) H 1 rfl (H.rd 0 rfl) hco (by omega) fun A8 c8 w H => ?_
                    refine litI1 H fun v11 w H => ?_
                    refine appRS (n := q.length) (m := 1) undI infI rfl (by decide) (by decide) H 3 rfl (H.rd 0 rfl) hci (by omega) fun A9 c9 w H => ?_
                    exact ⟨rfl, rfl, rfl, rfl, rfl, A8, c8, A9, c9, rfl, rfl, H.sel (fun q => by simp only [cntL_append, cntL, List.cons_append, List.nil_append, List.set_cons_zero, List.set_cons_succ, List.flatMap_append, List.flatMap_cons, List.flatMap_nil, It.rowB, It.rowI, It.roB, It.roI, ]; omega)⟩
                  · refine litI1 H fun v11 w H => ?_
                    refine appRS undDocs infDoc rfl (by decide) (by decide) H 2 rfl (H.rd 1 rfl) hco (by omega) fun A8 c8 w H => ?_
                    refine appRS (n := q.length) (m := 1) undI infI rfl (by decide) (by decide) H 3 rfl (H.rd 0 rfl) hci (by omega) fun A9 c9 w H => ?_
                    exact ⟨rfl, rfl, rfl, rfl, rfl, A8, c8, A9, c9, rfl, rfl, H.sel (fun q => by simp only [cntL_append, cntL, List.cons_append, List.nil_append, List.set_cons_zero, List.set_cons_succ, List.flatMap_append, List.flatMap_cons, List.flatMap_nil, It.rowB, It.rowI, It.roB, It.roI, ]; omega)⟩
                · refine litI1 H fun v11 w H => ?_
                  refine litRB (e := 102) (sz := 1) (n := 1) (cs := [D.v]) H rfl (by decide) (bsDoc D w) fun A10 c10 w hB H => ?_
                  refine appRS undDocs infDoc rfl (by decide) (by decide) H 2 rfl (H.rd 0 rfl) hco (by omega) fun A8 c8 w H => ?_
                  refine appRS (n := q.length) (m := 1) undI infI rfl (by decide) (by decide) H 3 rfl (H.rd 1 rfl) hci (by omega) fun A9 c9 w H => ?_
                  exact ⟨rfl, rfl, rfl, rfl, rfl, A8, c8, A9, c9, rfl, rfl, H.sel (fun q => by simp only [cntL_append, cntL, List.cons_append, List.nil_append, List.set_cons_zero, List.set_cons_succ, List.flatMap_append, List.flatMap_cons, List.flatMap_nil, It.rowB, It.rowI, It.roB, It.roI, ]; omega)⟩
              · rintro e w4 ⟨h26, h27, h28, h7, h8, A8, c8, A9, c9, h5, h6, H⟩
                rw [Env.seven h26 h27 h5 h6 h7 h8 h28]
                refine arN (by omega) ?_
                have hl1 : q.length + 1 = (D :: Gs.drop (arK kind)).length := by rw [List.length_cons, hGl]
                have hl2 : q.length + 1 = (e' :: st.drop (arK kind)).length := by rw [List.length_cons, ← hq2]
                rw [dvals_step Gs (arK kind) q.length (by omega) (by omega), nvals_step st (arK kind) q.length hks hql] at H
                have H1 : St W.heap.size W w4 (.row (.slice A8 (q.length + 1) c8) 102 1 (q.length + 1) (dvals (D :: Gs.drop (arK kind))) :: .row (.slice A9 (q.length + 1) c9) 3 1 (q.length + 1) ((nvals (e' :: st.drop (arK kind))).map (.int .i64)) :: (D :: Gs.drop (arK kind)).flatMap DocG.own) := H
                have e5 : Value.slice A8 (q.length + 1) c8 = .slice A8 (D :: Gs.drop (arK kind)).length c8 := by rw [hl1]
                have e6 : Value.slice A9 (q.length + 1) c9 = .slice A9 (e' :: st.drop (arK kind)).length c9 := by rw [hl2]
                have HA : St W.heap.size W w4 (.rowD (.slice A8 (D :: Gs.drop (arK kind)).length c8) (D :: Gs.drop (arK kind)) :: .row (.slice A9 (e' :: st.drop (arK kind)).length c9) 3 1 (e' :: st.drop (arK kind)).length ((nvals (e' :: st.drop (arK kind))).map (.int .i64)) :: (D :: Gs.drop (arK kind)).flatMap DocG.own) := by
                  rw [← e5, ← e6, ← hl2]; unfold It.rowD; rw [← hl1]; exact H1
                have hmd : (D :: Gs.drop (arK kind)).map DocG.d = (e' :: st.drop (arK kind)).map Ent.d := by
                  rw [List.map_cons, List.map_cons, hD, List.map_drop, hgs, List.map_drop]
                refine Exists.intro (m - 1) (And.intro (by omega) ⟨rfl, rfl, j + 1, g', e' :: st.drop (arK kind), D :: Gs.drop (arK kind), A8, A9, c8, c9, e5, e6, rfl, congrArg (Value.int .i64) (by omega), rfl, by omega, by rw [← hq2]; exact hst2, hmd, ?_, ?_, ?_, htt, by omega, ?_, HA⟩)
                · intro x hx; rcases List.mem_cons.1 hx with rfl | h; exact hDt; exact htx x (List.mem_of_mem_drop h)
                · intro x hx; rcases List.mem_cons.1 hx with rfl | h; omega; exact hnd x (List.mem_of_mem_drop h)
                · intro x hx; rw [htk] at hx; rcases List.mem_append.1 hx with h | h; exact hok x h; exact List.mem_singleton.1 h ▸ hop
                · rw [List.length_cons, ← hq2]; omega
      · rintro id e w ⟨rfl, g, st, Gs, A5, c5, h5, h7, hrun, hgs, htx, hnd, hok, htot, hsl, H⟩
        rw [Env.two h5 h7]
        have hgl : Gs.length = st.length := by have := congrArg List.length hgs; simpa using this
        refine ifB (fun c0 => ?_) (fun c0 => ?_)
        · exact no H (validD_len hrun (by omega))
        · obtain ⟨D, rfl⟩ : ∃ D, Gs = [D] := List.length_eq_one_iff.1 (by omega)
          obtain ⟨e1, rfl⟩ : ∃ e1, st = [e1] := List.length_eq_one_iff.1 (by omega)
          have hd : D.d = e1.d := by simpa using hgs
          have hv := validD_some (by omega) hok htot hrun (hnd e1 (by simp))
          rw [hr] at hv
          subst hv
          refine idxV 0 rfl (H.rd 0 rfl) (v := D.v) rfl (by show 0 < 1; decide) fun b off hc => ?_
          refine loadS hc ?_
          refine ⟨D, hd, rfl, htx D (by simp), ?_⟩
          have H2 := H.tl
          rw [List.flatMap_cons, List.flatMap_nil, List.append_nil] at H2
          exact H2
  · refine ifT ?_
    exact no H (validD_size (by omega))
end Go.Proofs.YtfhpgfbakimmhaaE
/- The reference's walks over a valid document: l2nested, l2flat, l2lead. -/
namespace Go.Proofs.YtfhpgfbakimmhaaE
open Go Go.RowKit
set_option linter.unusedVariables false
set_option linter.unusedSimpArgs false
set_option maxRecDepth 100000
set_option maxHeartbeats 2000000

theorem Loc.pos {ps : List PieceP} {d : DocT} {to : Nat} (h : Loc ps d to) : 0 < to ∧ to ≤ ps.length := by
  cases h <;> (rename_i h; exact ⟨Nat.succ_pos _, (List.getElem?_eq_some_iff.1 (by assumption)).1⟩)
theorem Loc.nn {ps : List PieceP} (hok : ∀ p ∈ ps, OkPiece p) {d : DocT} {to : Nat} (h : Loc ps d to) : NnD d := by
  induction h with
  | leaf h a => exact leaf_nn _
  | nest h a k ih => exact ⟨(hok _ (List.mem_of_getElem? h)).nest a, ih⟩
  | group h a k ih => exact ih
  | cat h a kr hp kl ihr ihl => exact ⟨ihl, ihr⟩
  | alt h a kr hp kl ihr ihl => exact ⟨ihl, ihr⟩
theorem piece_of {fs : List PieceG} {i : Nat} {p : PieceP} (h : (fs.map PieceG.p)[i]? = some p) : ∃ f, fs[i]? = some f ∧ f.p = p := by
  rw [List.getElem?_map] at h
  cases hf : fs[i]? with
  | none => rw [hf] at h; cases h
  | some f => rw [hf] at h; cases h; exact ⟨f, rfl, rfl⟩
abbrev RdSt (W : World) (As : Option Addr) (n cs : Nat) (ps : List PieceP) : Prop := Rd W (.slice As n cs) 1 n ((startsL ps n).map (.int .i64))
theorem leafNest (p : PieceP) : nestS (leafD p) = 0 := by unfold leafD; (repeat' split) <;> rfl
theorem ok_l2nested : callOK Try.prog 87 = true := by kernel_rfl
theorem l2nested_step {fs : List PieceG} {A As : Option Addr} {n c cs to : Nat} {f : PieceG} {x y : Int} {W : World} (hl : n ≤ 4294967296) (hf : fs[to]? = some f) (hn : arK f.kind = 1 → 0 ≤ f.n) (hx : RdPiece W (.slice A n c) n fs) (hst : RdSt W As n cs (fs.map PieceG.p))
    (hy : arK f.kind ≠ 0 → (0 ≤ y ∧ y ≤ 8000) ∧ ∀ w, Below W.heap.size W w → ∀ t : Int, t = (to : Int) → GivesV Try.prog 87 [.slice A n c, .slice As n cs, .int .i64 t] w (.int .i64 y))
    (hxx : arK f.kind = 2 → 0 < to ∧ ∀ w, Below W.heap.size W w → ∀ t : Int, t = (startM (fs.map PieceG.p) (to - 1) : Int) → GivesV Try.prog 87 [.slice A n c, .slice As n cs, .int .i64 t] w (.int .i64 x)) :
    GivesV Try.prog 87 [.slice A n c, .slice As n cs, .int .i64 (to + 1 : Nat)] W (.int .i64 (if arK f.kind = 0 then 0 else if arK f.kind = 1 then (if y > 4000 ∨ f.n > 4000 then 4001 else f.n + y) else if x > y then x else y)) := by
  have H := St.enter W
  have hnl := hx.len
  have hto := (List.getElem?_eq_some_iff.1 hf).1
  have h2 := arK_le f.kind
  have hk := (hx.kids f (List.mem_of_getElem? hf))
  obtain ⟨A0, c0, e0⟩ := PieceG.shape hk
  obtain ⟨textV, kind, text, nn⟩ := f
  dsimp only at *
  subst e0
  refine calls_of_vcV (args := [.slice A n c, .slice As n cs, .int .i64 (to + 1 : Nat)]) Try.func87 rfl (by kernel_rfl) (Nat.le_of_ble_eq_true rfl) ?_
  refine ar64 (by omega) (by omega) ?_
  refine idxCI (cells := PieceG.cells) to (by omega) PieceG.cells_len hx.row hf (by omega) fun b off hc => ?_
  refine loadS (v := .int .i64 kind) (hc 0 _ rfl) ?_
  refine loadS (v := .slice A0 text.length c0) (hc 1 _ rfl) ?_
  refine loadS (v := .int .i64 nn) (hc 2 _ rfl) ?_
  refine newR (o := .cells #[.int .i64 0, .slice none 0 0, .int .i64 0] _) H fun g0 w H => ?_
  refine storeO H 0 rfl rfl rfl fun w H => ?_
  refine storeO H 0 rfl rfl rfl fun w H => ?_
  refine storeO H 0 rfl rfl rfl fun w H => ?_
  refine loadO H 0 rfl rfl ?_
  have H1 : St W.heap.size W w [.obj g0 (.cells #[.int .i64 kind, .slice A0 text.length c0, .int .i64 nn] 96)] := H
  have H := H1
  refine callV ok_l2arity (spec_l2arity kind _) H fun w H => ?_
  refine ifB (fun a0 => ?_) (fun a0 => ?_)
  · exact Exists.intro _ (And.intro rfl (And.intro (congrArg (Value.int .i64) (by rw [if_pos (by omega)])) H.none))
  · obtain ⟨⟨y0, y1⟩, gy⟩ := hy (by omega)
    rw [if_neg (show ¬ arK kind = 0 by omega)]
    refine ar64 (by omega) (by omega) ?_
    refine callV ok_l2nested (gy _ H.below _ (by omega)) H fun w H => ?_
    refine ifB (fun c2 => ?_) (fun c2 => ?_)
    · refine RegV.mk ?_
      refine gF (fun c4 => ?_) (fun c4 => ?_)
      · refine loadO H 0 rfl rfl ?_
        refine ifB (fun c6 => ?_) (fun c6 => ?_)
        · exact Exists.intro _ (And.intro rfl (And.intro (congrArg (Value.int .i64) (by rw [if_pos (by omega), if_pos (by omega)])) H.none))
        · refine loadO H 0 rfl rfl ?_
          refine ar64 (by omega) (by omega) ?_
          exact Exists.intro _ (And.intro rfl (And.intro (congrArg (Value.int .i64) (by rw [if_pos (by omega), if_neg (by omega)])) H.none))
      · refine ifT ?_
        exact Exists.intro _ (And.intro rfl (And.intro (congrArg (Value.int .i64) (by rw [if_pos (by omega), if_pos (by omega)])) H.none))
    · refine ar64 (by omega) (by omega) ?_
      obtain ⟨hp, gx⟩ := hxx (by omega)
      rw [if_neg (show ¬ arK kind = 1 by omega)]
      refine idxI (hst.ext H.below) (by omega) (by omega) fun b off hc => ?_
      refine loadS hc ?_
      refine callV ok_l2nested (gx _ H.below _ (by rw [show (((to + 1 : Nat) : Int) - 2).toNat = to - 1 by omega]; exact startsL_get (by omega))) H fun w H => ?_
      refine ifB (fun c0 => ?_) (fun c0 => ?_)
      · exact Exists.intro _ (And.intro rfl (And.intro (congrArg (Value.int .i64) (by rw [if_pos (by omega)])) H.none))
      · exact Exists.intro _ (And.intro rfl (And.intro (congrArg (Value.int .i64) (by rw [if_neg (by omega)])) H.none))
theorem spec_l2nested {fs : List PieceG} {A As : Option Addr} {n c cs : Nat} (hl : n ≤ 4294967296) (hok : ∀ p ∈ fs.map PieceG.p, OkPiece p) {d : DocT} {to : Nat} (hL : Loc (fs.map PieceG.p) d to) :
    ∀ {W : World}, RdPiece W (.slice A n c) n fs → RdSt W As n cs (fs.map PieceG.p) → GivesV Try.prog 87 [.slice A n c, .slice As n cs, .int .i64 to] W (.int .i64 (nestS d)) := by
  have hnn := fun {d : DocT} {to : Nat} (h : Loc (fs.map PieceG.p) d to) => nestS_eq (h.nn hok)
  have k1 : ∀ {f : PieceG}, f ∈ fs → arK f.kind = 1 → 0 ≤ f.n := fun {f} hf h => by
    have q := hok _ (List.mem_map_of_mem hf)
    by_cases e : f.kind = 7
    · exact q.nest e
    · exact Int.le_of_eq (q.zero e).symm
  induction hL with
  | @leaf to p h a =>
    intro W hx hst
    obtain ⟨f, hf, rfl⟩ := piece_of h
    have a : arK f.kind = 0 := a
    have := l2nested_step (x := 0) (y := 0) hl hf (k1 (List.mem_of_getElem? hf)) hx hst (fun q => absurd a q) (fun q => by omega)
    rw [if_pos a] at this
    rw [leafNest]; exact this
  | @nest to p d h a k ih =>
    intro W hx hst
    obtain ⟨f, hf, rfl⟩ := piece_of h
    have a : f.kind = 7 := a
    have ar : arK f.kind = 1 := by rw [a]; rfl
    have := l2nested_step (x := 0) (y := nestS d) hl hf (k1 (List.mem_of_getElem? hf)) hx hst (fun q => ⟨⟨(hnn k).1, (hnn k).2.1⟩, fun w hb t ht => by subst ht; exact ih (hx.ext hb) (hst.ext hb)⟩) (fun q => by omega)
    rw [if_neg (by omega), if_pos ar] at this
    exact this
  | @group to p d h a k ih =>
    intro W hx hst
    obtain ⟨f, hf, rfl⟩ := piece_of h
    have a : f.kind = 8 := a
    have ar : arK f.kind = 1 := by rw [a]; rfl
    have hz : f.n = 0 := (hok _ (List.mem_map_of_mem (List.mem_of_getElem? hf))).zero (by show f.kind ≠ 7; omega)
    have := l2nested_step (x := 0) (y := nestS d) hl hf (k1 (List.mem_of_getElem? hf)) hx hst (fun q => ⟨⟨(hnn k).1, (hnn k).2.1⟩, fun w hb t ht => by subst ht; exact ih (hx.ext hb) (hst.ext hb)⟩) (fun q => by omega)
    rw [if_neg (by omega), if_pos ar, hz] at this
    have e : nestS (.group d (cntG ((fs.map PieceG.p).take to))) = if nestS d > 4000 ∨ (0 : Int) > 4000 then 4001 else 0 + nestS d := by simp only [nestS]; (repeat' split) <;> omega
    rw [e]; exact this
  | @cat to p l r h a kr hp kl ihr ihl =>
    intro W hx hst
    obtain ⟨f, hf, rfl⟩ := piece_of h
    have a : f.kind = 6 := a
    have ar : arK f.kind = 2 := by rw [a]; rfl
    have := l2nested_step (x := nestS l) (y := nestS r) hl hf (k1 (List.mem_of_getElem? hf)) hx hst (fun q => ⟨⟨(hnn kr).1, (hnn kr).2.1⟩, fun w hb t ht => by subst ht; exact ihr (hx.ext hb) (hst.ext hb)⟩) (fun q => ⟨hp, fun w hb t ht => by subst ht; exact ihl (hx.ext hb) (hst.ext hb)⟩)
    rw [if_neg (by omega), if_neg (by omega)] at this
    exact this
  | @alt to p l r h a kr hp kl ihr ihl =>
    intro W hx hst
    obtain ⟨f, hf, rfl⟩ := piece_of h
    have a : f.kind = 9 := a
    have ar : arK f.kind = 2 := by rw [a]; rfl
    have := l2nested_step (x := nestS l) (y := nestS r) hl hf (k1 (List.mem_of_getElem? hf)) hx hst (fun q => ⟨⟨(hnn kr).1, (hnn kr).2.1⟩, fun w hb t ht => by subst ht; exact ihr (hx.ext hb) (hst.ext hb)⟩) (fun q => ⟨hp, fun w hb t ht => by subst ht; exact ihl (hx.ext hb) (hst.ext hb)⟩)
    rw [if_neg (by omega), if_neg (by omega)] at this
    exact this
end Go.Proofs.YtfhpgfbakimmhaaE
/- The reference's l2lead. -/
namespace Go.Proofs.YtfhpgfbakimmhaaE
open Go Go.RowKit
set_option linter.unusedVariables false
set_option linter.unusedSimpArgs false
set_option maxRecDepth 100000
set_option maxHeartbeats 2000000

def leadStep (k : Int) (t : Int) (x y : Int × Bool) : Int × Bool :=
  if k = 0 then (0, false) else if k = 1 then (t, false) else if arK k = 0 then (0, true) else if k = 7 ∨ k = 8 then y else if k = 9 ∨ x.2 = true then x else (x.1 + y.1, y.2)
abbrev vIB (x : Int × Bool) : Value := .tuple #[.int .i64 x.1, .bool x.2]
theorem ok_l2lead : callOK Try.prog 93 = true := by kernel_rfl
theorem l2lead_step {fs : List PieceG} {A As : Option Addr} {n c cs to : Nat} {f : PieceG} {x y : Int × Bool} {W : World} (hl : n ≤ 4294967296) (hf : fs[to]? = some f) (hb : byteOK f.text) (htl : f.text.length ≤ 4294967296) (hx : RdPiece W (.slice A n c) n fs) (hst : RdSt W As n cs (fs.map PieceG.p))
    (hy : arK f.kind ≠ 0 → (0 ≤ y.1 ∧ y.1 ≤ 140000) ∧ ∀ w, Below W.heap.size W w → ∀ t : Int, t = (to : Int) → GivesV Try.prog 93 [.slice A n c, .slice As n cs, .int .i64 t] w (vIB y))
    (hxx : arK f.kind = 2 → (0 ≤ x.1 ∧ x.1 ≤ 140000) ∧ 0 < to ∧ ∀ w, Below W.heap.size W w → ∀ t : Int, t = (startM (fs.map PieceG.p) (to - 1) : Int) → GivesV Try.prog 93 [.slice A n c, .slice As n cs, .int .i64 t] w (vIB x)) :
    GivesV Try.prog 93 [.slice A n c, .slice As n cs, .int .i64 (to + 1 : Nat)] W (vIB (leadStep f.kind (tw f.text) x y)) := by
  have H := St.enter W
  have hnl := hx.len
  have hto := (List.getElem?_eq_some_iff.1 hf).1
  have h2 := arK_le f.kind
  have hk := (hx.kids f (List.mem_of_getElem? hf))
  have h2k : ¬ arK f.kind = 0 → ¬ arK f.kind = 1 → f.kind = 6 ∨ f.kind = 9 := arK_two
  have h1k : arK f.kind = 1 → f.kind = 7 ∨ f.kind = 8 := arK_one
  obtain ⟨A0, c0, e0⟩ := PieceG.shape hk
  obtain ⟨textV, kind, text, nn⟩ := f
  dsimp only at *
  subst e0
  have hk2 : RdB W (.slice A0 text.length c0) text := hk
  refine calls_of_vcV (args := [.slice A n c, .slice As n cs, .int .i64 (to + 1 : Nat)]) Try.func93 rfl (by kernel_rfl) (Nat.le_of_ble_eq_true rfl) ?_
  refine ar64 (by omega) (by omega) ?_
  refine idxCI (cells := PieceG.cells) to (by omega) PieceG.cells_len hx.row hf (by omega) fun b off hc => ?_
  refine loadS (v := .int .i64 kind) (hc 0 _ rfl) ?_
  refine loadS (v := .slice A0 text.length c0) (hc 1 _ rfl) ?_
  refine loadS (v := .int .i64 nn) (hc 2 _ rfl) ?_
  refine newR (o := .cells #[.int .i64 0, .slice none 0 0, .int .i64 0] _) H fun g0 w H => ?_
  refine storeO H 0 rfl rfl rfl fun w H => ?_
  refine storeO H 0 rfl rfl rfl fun w H => ?_
  refine storeO H 0 rfl rfl rfl fun w H => ?_
  refine loadO H 0 rfl rfl ?_
  refine ifB (fun c5 => ?_) (fun c5 => ?_)
  · exact Exists.intro _ (And.intro rfl (And.intro (by show Value.tuple #[.int .i64 0, .bool false] = _; unfold leadStep vIB; rw [if_pos c5]) H.none))
  · refine loadO H 0 rfl rfl ?_
    refine ifB (fun c7 => ?_) (fun c7 => ?_)
    · refine loadO H 0 rfl rfl ?_
      have H1 : St W.heap.size W w [.obj g0 (.cells #[.int .i64 kind, .slice A0 text.length c0, .int .i64 nn] 96)] := H
      have H := H1
      refine callV ok_spec_TextWidth (spec_TextWidth hb htl (hk2.ext H.below)) H fun w H => ?_
      exact Exists.intro _ (And.intro rfl (And.intro (by show Value.tuple #[.int .i64 (tw text), .bool false] = _; unfold leadStep vIB; rw [if_neg c5, if_pos c7]) H.none))
    · refine loadO H 0 rfl rfl ?_
      have H1 : St W.heap.size W w [.obj g0 (.cells #[.int .i64 kind, .slice A0 text.length c0, .int .i64 nn] 96)] := H
      have H := H1
      refine callV ok_l2arity (spec_l2arity kind _) H fun w H => ?_
      refine ifB (fun a0 => ?_) (fun a0 => ?_)
      · exact Exists.intro _ (And.intro rfl (And.intro (by show Value.tuple #[.int .i64 0, .bool true] = _; unfold leadStep vIB; rw [if_neg c5, if_neg c7, if_pos (by omega)]) H.none))
      · obtain ⟨⟨y0, y1⟩, gy⟩ := hy (by omega)
        have e0 : leadStep kind (tw text) x y = if kind = 7 ∨ kind = 8 then y else if kind = 9 ∨ x.2 = true then x else (x.1 + y.1, y.2) := by unfold leadStep; rw [if_neg c5, if_neg c7, if_neg (by omega)]
        rw [e0]
        refine RegV.mk ?_
        refine loadO H 0 rfl rfl ?_
        refine gF (fun c2 => ?_) (fun c2 => ?_)
        · refine loadO H 0 rfl rfl ?_
          refine ifB (fun c4 => ?_) (fun c4 => ?_)
          · refine ar64 (by omega) (by omega) ?_
            refine callV ok_l2lead (gy _ H.below _ (by omega)) H fun w H => ?_
            exact Exists.intro _ (And.intro rfl (And.intro (show vIB y = _ by rw [if_pos (by omega)]) H.none))
          · refine ar64 (by omega) (by omega) ?_
            obtain ⟨⟨x0, x1⟩, hp, gx⟩ := hxx (by omega)
            rw [if_neg (show ¬ (kind = 7 ∨ kind = 8) by omega)]
            refine idxI (hst.ext H.below) (by omega) (by omega) fun b off hc => ?_
            refine loadS hc ?_
            obtain ⟨xw, xe⟩ := x
            cases xe <;>
            (refine callV ok_l2lead (gx _ H.below _ (by rw [show (((to + 1 : Nat) : Int) - 2).toNat = to - 1 by omega]; exact startsL_get (by omega))) H fun w H => ?_)
            · dsimp only at x0 x1
              refine RegV.mk ?_
              refine loadO H 0 rfl rfl ?_
              refine gF (fun c2 => ?_) (fun c2 => ?_)
              · refine ifF ?_
                refine ar64 (by omega) (by omega) ?_
                refine callV ok_l2lead (gy _ H.below _ (by omega)) H fun w H => ?_
                refine ar64 (by omega) (by omega) ?_
                exact Exists.intro _ (And.intro rfl (And.intro (show Value.tuple #[.int .i64 (xw + y.1), .bool y.2] = _ by rw [if_neg (by rintro (q | q); exact c2 q; cases q)]) H.none))
              · refine ifT ?_
                exact Exists.intro _ (And.intro rfl (And.intro (show Value.tuple #[.int .i64 xw, .bool false] = _ by rw [if_pos (.inl c2)]) H.none))
            · refine RegV.mk ?_
              refine loadO H 0 rfl rfl ?_
              refine gF (fun c2 => ?_) (fun c2 => ?_)
              · refine ifT ?_
                exact Exists.intro _ (And.intro rfl (And.intro (show Value.tuple #[.int .i64 xw, .bool true] = _ by rw [if_pos (.inr rfl)]) H.none))
              · refine ifT ?_
                exact Exists.intro _ (And.intro rfl (And.intro (show Value.tuple #[.int .i64 xw, .bool true] = _ by rw [if_pos (.inr rfl)]) H.none))
        · refine ifT ?_
          refine ar64 (by omega) (by omega) ?_
          refine callV ok_l2lead (gy _ H.below _ (by omega)) H fun w H => ?_
          exact Exists.intro _ (And.intro rfl (And.intro (show vIB y = _ by rw [if_pos (by omega)]) H.none))
theorem spec_l2lead {fs : List PieceG} {A As : Option Addr} {n c cs : Nat} (hl : n ≤ 4294967296) (hok : ∀ p ∈ fs.map PieceG.p, OkPiece p) (hb : ∀ f ∈ fs, byteOK f.text ∧ f.text.length ≤ 4294967296) {d : DocT} {to : Nat} (hL : Loc (fs.map PieceG.p) d to) (hT : d.tl ≤ 140000) :
    ∀ {W : World}, RdPiece W (.slice A n c) n fs → RdSt W As n cs (fs.map PieceG.p) → GivesV Try.prog 93 [.slice A n c, .slice As n cs, .int .i64 to] W (vIB (leadD d)) := by
  have hnn := fun {d : DocT} {to : Nat} (h : Loc (fs.map PieceG.p) d to) => lead_bound (h.good hok)
  induction hL with
  | @leaf to p h a =>
    intro W hx hst
    obtain ⟨f, hf, rfl⟩ := piece_of h
    have a : arK f.kind = 0 := a
    have hm := List.mem_of_getElem? hf
    have := l2lead_step (x := (0, false)) (y := (0, false)) hl hf (hb f hm).1 (hb f hm).2 hx hst (fun q => absurd a q) (fun q => by omega)
    have e : leadStep f.kind (tw f.text) (0, false) (0, false) = leadD (leafD f.p) := by
      unfold leadStep leafD
      show _ = leadD (if f.kind = 0 then .nil else if f.kind = 1 then .text f.text else .line f.kind)
      rw [if_pos a]; (repeat' split) <;> rfl
    rw [e] at this; exact this
  | @nest to p d h a k ih =>
    intro W hx hst
    obtain ⟨f, hf, rfl⟩ := piece_of h
    have a : f.kind = 7 := a
    have hm := List.mem_of_getElem? hf
    have hT2 : d.tl ≤ 140000 := by simp only [DocT.tl] at hT; omega
    have hbd := hnn k
    have := l2lead_step (x := (0, false)) (y := leadD d) hl hf (hb f hm).1 (hb f hm).2 hx hst (fun q => ⟨by omega, fun w hb t ht => by subst ht; exact ih hT2 (hx.ext hb) (hst.ext hb)⟩) (fun q => by rw [a] at q; exact absurd q (by decide))
    rw [a] at this; exact this
  | @group to p d h a k ih =>
    intro W hx hst
    obtain ⟨f, hf, rfl⟩ := piece_of h
    have a : f.kind = 8 := a
    have hm := List.mem_of_getElem? hf
    have hT2 : d.tl ≤ 140000 := by simp only [DocT.tl] at hT; omega
    have hbd := hnn k
    have := l2lead_step (x := (0, false)) (y := leadD d) hl hf (hb f hm).1 (hb f hm).2 hx hst (fun q => ⟨by omega, fun w hb t ht => by subst ht; exact ih hT2 (hx.ext hb) (hst.ext hb)⟩) (fun q => by rw [a] at q; exact absurd q (by decide))
    rw [a] at this; exact this
  | @cat to p l r h a kr hp kl ihr ihl =>
    intro W hx hst
    obtain ⟨f, hf, rfl⟩ := piece_of h
    have a : f.kind = 6 := a
    have hm := List.mem_of_getElem? hf
    have hTr : r.tl ≤ 140000 := by simp only [DocT.tl] at hT; omega
    have hTl : l.tl ≤ 140000 := by simp only [DocT.tl] at hT; omega
    have hbr := hnn kr
    have hbl := hnn kl
    have := l2lead_step (x := leadD l) (y := leadD r) hl hf (hb f hm).1 (hb f hm).2 hx hst (fun q => ⟨by omega, fun w hb t ht => by subst ht; exact ihr hTr (hx.ext hb) (hst.ext hb)⟩) (fun q => ⟨by omega, hp, fun w hb t ht => by subst ht; exact ihl hTl (hx.ext hb) (hst.ext hb)⟩)
    rw [a] at this
    have e : leadStep 6 (tw f.text) (leadD l) (leadD r) = leadD (.cat l r) := by
      show (if (6 : Int) = 9 ∨ (leadD l).2 = true then leadD l else _) = _
      simp only [leadD]
      split
      · rename_i q; rw [if_pos (by rcases q with q | q; cases q; exact q)]; rcases q with q | q; cases q; exact Prod.ext rfl q
      · rename_i q; rw [if_neg (fun z => q (.inr z))]
    rw [e] at this; exact this
  | @alt to p l r h a kr hp kl ihr ihl =>
    intro W hx hst
    obtain ⟨f, hf, rfl⟩ := piece_of h
    have a : f.kind = 9 := a
    have hm := List.mem_of_getElem? hf
    have hTr : r.tl ≤ 140000 := by simp only [DocT.tl] at hT; omega
    have hTl : l.tl ≤ 140000 := by simp only [DocT.tl] at hT; omega
    have hbr := hnn kr
    have hbl := hnn kl
    have := l2lead_step (x := leadD l) (y := leadD r) hl hf (hb f hm).1 (hb f hm).2 hx hst (fun q => ⟨by omega, fun w hb t ht => by subst ht; exact ihr hTr (hx.ext hb) (hst.ext hb)⟩) (fun q => ⟨by omega, hp, fun w hb t ht => by subst ht; exact ihl hTl (hx.ext hb) (hst.ext hb)⟩)
    rw [a] at this
    have e : leadStep 9 (tw f.text) (leadD l) (leadD r) = leadD (.alt l r) := by
      show (if (9 : Int) = 9 ∨ (leadD l).2 = true then leadD l else ((leadD l).1 + (leadD r).1, (leadD r).2)) = _
      rw [if_pos (.inl rfl)]; rfl
    rw [e] at this; exact this
end Go.Proofs.YtfhpgfbakimmhaaE
/- The reference's l2flat. -/
namespace Go.Proofs.YtfhpgfbakimmhaaE
open Go Go.RowKit
set_option linter.unusedVariables false
set_option linter.unusedSimpArgs false
set_option maxRecDepth 100000
set_option maxHeartbeats 8000000

/-- what may be read as long as what stands in L stands -/
def KeepL (B : Nat) (W0 : World) (L : List It) (R : World → Prop) : Prop := ∀ (w : World) (M : List It), St B W0 w M → (∀ it ∈ L, it ∈ M) → R w
def FlatR (B : Nat) (W0 : World) (L : List It) (acc : List Int) (r : Option (List Int)) (e : Ending) (w' : World) : Prop :=
  match r with
  | some t => ∃ A' c', e = .returned (.tuple #[.slice A' (acc ++ t).length c', .bool true]) ∧ St B W0 w' (.rowB (.slice A' (acc ++ t).length c') (acc ++ t) :: L)
  | none => e = .returned (.tuple #[.slice none 0 0, .bool false]) ∧ St B W0 w' L
theorem FlatR.nil {B : Nat} {W0 w : World} {L : List It} {acc : List Int} {Ao : Option Addr} {co : Nat} (H : St B W0 w (.rowB (.slice Ao acc.length co) acc :: L)) : FlatR B W0 L acc (some []) (.returned (.tuple #[.slice Ao acc.length co, .bool true])) w := ⟨Ao, co, by rw [List.append_nil], by rw [List.append_nil]; exact H⟩
def flatStep (p : PieceP) (x y : Option (List Int)) : Option (List Int) :=
  if p.kind = 0 ∨ p.kind = 3 then some [] else if p.kind = 1 then some p.text else if p.kind = 2 then some [32] else if p.kind = 4 ∨ p.kind = 5 then none
  else if p.kind = 6 then x.bind fun a => y.map fun b => a ++ b else y
abbrev FlatCall (v s : Value) (to : Int) (T : Nat) (B : Nat) (W0 : World) (L : List It) (r : Option (List Int)) : Prop :=
  ∀ (acc : List Int) (Ao : Option Addr) (co : Nat) (w : World), acc.length + T ≤ 4294967296 → St B W0 w (.rowB (.slice Ao acc.length co) acc :: L) → ∀ t : Int, t = to → Calls Try.prog 91 #[v, s, .int .i64 t, .slice Ao acc.length co] w (FlatR B W0 L acc r)
theorem ok_l2flat : callOK Try.prog 91 = true := by kernel_rfl
theorem l2flat_step {fs : List PieceG} {A As : Option Addr} {n c cs to T : Nat} {f : PieceG} {x y : Option (List Int)} {B : Nat} {W0 : World} {L : List It} (hl : n ≤ 4294967296) (hf : fs[to]? = some f) (ht : f.text.length ≤ 4294967295) (hT : f.text.length + 1 ≤ T)
    (hx : KeepL B W0 L fun w => RdPiece w (.slice A n c) n fs) (hst : KeepL B W0 L fun w => RdSt w As n cs (fs.map PieceG.p)) (hK : 0 ≤ f.kind ∧ f.kind ≤ 9) (ha : ∀ t, x = some t → f.kind = 6 → ∃ T2 : Nat, t.length + T2 ≤ T ∧ FlatCall (.slice A n c) (.slice As n cs) to T2 B W0 L y)
    (hy : 6 ≤ f.kind → f.kind ≠ 6 → FlatCall (.slice A n c) (.slice As n cs) to T B W0 L y)
    (hxx : f.kind = 6 → 0 < to ∧ FlatCall (.slice A n c) (.slice As n cs) (startM (fs.map PieceG.p) (to - 1)) T B W0 L x) :
    FlatCall (.slice A n c) (.slice As n cs) (to + 1 : Nat) T B W0 L (flatStep f.p x y) := by
  intro acc Ao co w hacc H t0 e0
  subst e0
  have hx0 := hx _ _ H (fun it h => by simp [h])
  have hnl := hx0.len
  have hto := (List.getElem?_eq_some_iff.1 hf).1
  have hk := (hx0.kids f (List.mem_of_getElem? hf))
  obtain ⟨A0, c0, e0⟩ := PieceG.shape hk
  obtain ⟨textV, kind, text, nn⟩ := f
  dsimp only at *
  subst e0
  show Calls Try.prog 91 #[.slice A n c, .slice As n cs, .int .i64 (to + 1 : Nat), .slice Ao acc.length co] w (FlatR B W0 L acc (flatStep ⟨kind, text, nn⟩ x y))
  obtain ⟨r, hr⟩ : ∃ r, flatStep ⟨kind, text, nn⟩ x y = r := ⟨_, rfl⟩
  rw [hr]
  unfold flatStep at hr
  simp only at hr
  refine calls_of_vcV (args := [.slice A n c, .slice As n cs, .int .i64 (to + 1 : Nat), .slice Ao acc.length co]) Try.func91 rfl (by kernel_rfl) (Nat.le_of_ble_eq_true rfl) ?_
  refine ar64 (by omega) (by omega) ?_
  refine idxCI (cells := PieceG.cells) to (by omega) PieceG.cells_len hx0.row hf (by omega) fun b off hc => ?_
  refine loadS (v := .int .i64 kind) (hc 0 _ rfl) ?_
  refine loadS (v := .slice A0 text.length c0) (hc 1 _ rfl) ?_
  refine loadS (v := .int .i64 nn) (hc 2 _ rfl) ?_
  refine newR (o := .cells #[.int .i64 0, .slice none 0 0, .int .i64 0] _) H fun g0 w H => ?_
  refine storeO H 0 rfl rfl rfl fun w H => ?_
  refine storeO H 0 rfl rfl rfl fun w H => ?_
  refine storeO H 0 rfl rfl rfl fun w H => ?_
  refine RegV.mk ?_
  refine loadO H 0 rfl rfl ?_
  refine gF (fun c6 => ?_) (fun c6 => ?_)
  · refine loadO H 0 rfl rfl ?_
    refine ifB (fun c8 => ?_) (fun c8 => ?_)
    · rw [if_pos (.inr c8)] at hr
      subst hr
      exact FlatR.nil H.tl
    · refine loadO H 0 rfl rfl ?_
      refine ifB (fun c10 => ?_) (fun c10 => ?_)
      · refine loadO H 0 rfl rfl ?_
        rw [if_neg (by omega), if_pos c10] at hr
        subst hr
        have H1 : St B W0 w (.obj g0 (.cells #[.int .i64 kind, .slice A0 text.length c0, .int .i64 nn] 96) :: .rowB (.slice Ao acc.length co) acc :: L) := H
        have hx1 := hx _ _ H1 (fun it h => by simp [h])
        have hk1 : RdB w (.slice A0 text.length c0) text := hx1.kids _ (List.mem_of_getElem? hf)
        refine appBS (xs := acc) (ys := text) H1 1 rfl hk1 (by omega) fun A6 c6 w H => ?_
        exact ⟨A6, c6, rfl, H.tl⟩
      · refine loadO H 0 rfl rfl ?_
        refine ifB (fun c13 => ?_) (fun c13 => ?_)
        · refine litBS (xs := [32]) H (by simp) (by kernel_rfl) fun A14 k14 w H => ?_
          refine appBS H 2 rfl (H.rd 0 rfl) (by first | omega | (simp; omega)) fun A15 k15 w H => ?_
          rw [if_neg (by omega), if_neg c10, if_pos c13] at hr
          subst hr
          exact ⟨A15, k15, rfl, H.tl.tl⟩
        · refine RegV.mk ?_
          refine loadO H 0 rfl rfl ?_
          refine gF (fun c18 => ?_) (fun c18 => ?_)
          · refine loadO H 0 rfl rfl ?_
            refine ifB (fun c20 => ?_) (fun c20 => ?_)
            · rw [if_neg (by omega), if_neg c10, if_neg c13, if_pos (.inr c20)] at hr
              subst hr
              exact And.intro rfl H.tl.tl
            · rw [if_neg (by omega), if_neg c10, if_neg c13, if_neg (by omega)] at hr
              have H1 : St B W0 w (.obj g0 (.cells #[.int .i64 kind, .slice A0 text.length c0, .int .i64 nn] 96) :: .rowB (.slice Ao acc.length co) acc :: L) := H
              have H := H1
              have hst1 := hst _ _ H1 (fun it h => by simp [h])
              refine JoinV.mk ?_
              refine loadO H 0 rfl rfl ?_
              refine ifB (fun c22 => ?_) (fun c22 => ?_)
              · rw [if_pos c22] at hr
                obtain ⟨hp, gx⟩ := hxx c22
                refine ar64 (by omega) (by omega) ?_
                refine idxI hst1 (by omega) (by omega) fun b off hc => ?_
                refine loadS hc ?_
                refine CallS.mk ok_l2flat ((gx acc Ao co _ hacc H.tl _ (by rw [show (((to + 1 : Nat) : Int) - 2).toNat = to - 1 by omega]; exact startsL_get (by omega))).mono ?_)
                rintro e2 w2 hR
                cases hxe : x with
                | none =>
                  rw [hxe] at hR
                  obtain ⟨rfl, H⟩ := hR
                  rw [hxe] at hr
                  have hr : none = r := hr
                  subst hr
                  refine ifNot ?_
                  refine ifF ?_
                  exact And.intro rfl H
                | some a =>
                  rw [hxe] at hR
                  obtain ⟨A2, c2, rfl, H⟩ := hR
                  rw [hxe] at hr
                  obtain ⟨T2, hT2, gy⟩ := ha a hxe c22
                  refine ifNot ?_
                  refine ifT ?_
                  refine ar64 (by omega) (by omega) ?_
                  refine CallS.mk ok_l2flat ((gy (acc ++ a) A2 c2 _ (by rw [List.length_append]; omega) H _ (by omega)).mono ?_)
                  rintro e3 w3 hR
                  cases hye : y with
                  | none =>
                    rw [hye] at hR
                    obtain ⟨rfl, H⟩ := hR
                    rw [hye] at hr
                    have hr : none = r := hr
                    subst hr
                    exact And.intro rfl H
                  | some b2 =>
                    rw [hye] at hR
                    obtain ⟨A3, c3, rfl, H⟩ := hR
                    rw [hye] at hr
                    have hr : some (a ++ b2) = r := hr
                    subst hr
                    have q : FlatR B W0 L acc (some (a ++ b2)) (.returned (.tuple #[.slice A3 (acc ++ a ++ b2).length c3, .bool true])) w3 := ⟨A3, c3, by rw [List.append_assoc], by rw [← List.append_assoc]; exact H⟩
                    exact q
              · rw [if_neg c22] at hr
                subst hr
                refine ar64 (by omega) (by omega) ?_
                refine CallS.mk ok_l2flat ((hy (by omega) c22 acc Ao co _ hacc H.tl _ (by omega)).mono ?_)
                rintro e3 w3 hR
                cases hye : y with
                | none =>
                  rw [hye] at hR
                  obtain ⟨rfl, H⟩ := hR
                  exact And.intro rfl H
                | some b2 =>
                  rw [hye] at hR
                  obtain ⟨A3, c3, rfl, H⟩ := hR
                  exact ⟨A3, c3, rfl, H⟩
          · refine ifT ?_
            rw [if_neg (by omega), if_neg c10, if_neg c13, if_pos (.inl c18)] at hr
            subst hr
            exact And.intro rfl H.tl.tl
  · refine ifT ?_
    rw [if_pos (.inl c6)] at hr
    subst hr
    exact FlatR.nil H.tl
theorem FlatCall.more {v s : Value} {to : Int} {T T' B : Nat} {W0 : World} {L : List It} {r : Option (List Int)} (h : FlatCall v s to T' B W0 L r) (hT : T' ≤ T) : FlatCall v s to T B W0 L r := fun acc Ao co w ha H t ht => h acc Ao co w (by omega) H t ht
theorem flatLeaf {p : PieceP} (hp : OkPiece p) (ha : arK p.kind = 0) (x y : Option (List Int)) : flatStep p x y = flatD (leafD p) := by
  have h0 := hp.kind
  have h6 : p.kind ≠ 6 ∧ p.kind ≠ 7 ∧ p.kind ≠ 8 ∧ p.kind ≠ 9 := by
    refine ⟨?_, ?_, ?_, ?_⟩ <;> (intro e; rw [e] at ha; exact absurd ha (by decide))
  unfold flatStep leafD
  by_cases e0 : p.kind = 0
  · rw [if_pos (.inl e0), if_pos e0]; rfl
  · rw [if_neg e0]
    by_cases e1 : p.kind = 1
    · rw [if_neg (by omega), if_pos e1, if_pos e1]; rfl
    · rw [if_neg e1, if_neg e1]
      simp only [flatD]
      by_cases e3 : p.kind = 3
      · rw [if_pos (.inr e3), if_neg (by omega), if_pos e3]
      · rw [if_neg (by omega), if_neg e3]
        by_cases e2 : p.kind = 2
        · rw [if_pos e2, if_pos e2]
        · rw [if_neg e2, if_neg e2, if_pos (by omega)]
theorem spec_l2flat {fs : List PieceG} {A As : Option Addr} {n c cs B : Nat} {W0 : World} {L : List It} (hl : n ≤ 4294967296) (hok : ∀ p ∈ fs.map PieceG.p, OkPiece p)
    (hx : KeepL B W0 L fun w => RdPiece w (.slice A n c) n fs) (hst : KeepL B W0 L fun w => RdSt w As n cs (fs.map PieceG.p)) {d : DocT} {to : Nat} (hL : Loc (fs.map PieceG.p) d to) (hT : d.tl ≤ 140000) :
    FlatCall (.slice A n c) (.slice As n cs) to d.tl B W0 L (flatD d) := by
  have kd : ∀ {f : PieceG}, f ∈ fs → 0 ≤ f.kind ∧ f.kind ≤ 9 := fun hf => (hok _ (List.mem_map_of_mem hf)).kind
  have z : ∀ {f : PieceG}, f ∈ fs → f.kind ≠ 1 → f.text.length = 0 := fun hf h => (hok _ (List.mem_map_of_mem hf)).empty h
  induction hL with
  | @leaf to p h a =>
    obtain ⟨f, hf, rfl⟩ := piece_of h
    have hm := List.mem_of_getElem? hf
    have htl := (leaf_tl (hok _ (List.mem_map_of_mem hm))).1
    have htl : (leafD f.p).tl = f.text.length + 1 := htl
    have ak : arK f.kind = 0 := a
    have h6 : f.kind ≠ 6 ∧ f.kind ≠ 7 ∧ f.kind ≠ 8 ∧ f.kind ≠ 9 := by
      refine ⟨?_, ?_, ?_, ?_⟩ <;> (intro e; rw [e] at ak; exact absurd ak (by decide))
    have k := kd hm
    have := l2flat_step (x := none) (y := none) (T := (leafD f.p).tl) hl hf (by omega) (by omega) hx hst k (fun t e => by cases e) (fun q q2 => by omega) (fun q => by omega)
    rw [flatLeaf (hok _ (List.mem_map_of_mem hm)) a] at this
    exact this
  | @nest to p d h a k ih =>
    obtain ⟨f, hf, rfl⟩ := piece_of h
    have hm := List.mem_of_getElem? hf
    have a : f.kind = 7 := a
    have z := z hm (by omega)
    simp only [DocT.tl] at hT ⊢
    have := l2flat_step (x := none) (y := flatD d) (T := d.tl + 1) hl hf (by omega) (by omega) hx hst (kd hm) (fun t e => by cases e) (fun _ _ => (ih (by omega)).more (by omega)) (fun q => by omega)
    have e : flatStep f.p none (flatD d) = flatD d := by unfold flatStep; rw [show f.p.kind = 7 from a]; rfl
    rw [e] at this; exact this
  | @group to p d h a k ih =>
    obtain ⟨f, hf, rfl⟩ := piece_of h
    have hm := List.mem_of_getElem? hf
    have a : f.kind = 8 := a
    have z := z hm (by omega)
    simp only [DocT.tl] at hT ⊢
    have := l2flat_step (x := none) (y := flatD d) (T := d.tl + 1) hl hf (by omega) (by omega) hx hst (kd hm) (fun t e => by cases e) (fun _ _ => (ih (by omega)).more (by omega)) (fun q => by omega)
    have e : flatStep f.p none (flatD d) = flatD d := by unfold flatStep; rw [show f.p.kind = 8 from a]; rfl
    rw [e] at this; exact this
  | @cat to p l r h a kr hp kl ihr ihl =>
    obtain ⟨f, hf, rfl⟩ := piece_of h
    have hm := List.mem_of_getElem? hf
    have a : f.kind = 6 := a
    have z := z hm (by omega)
    simp only [DocT.tl] at hT ⊢
    have := l2flat_step (x := flatD l) (y := flatD r) (T := l.tl + r.tl + 1) hl hf (by omega) (by omega) hx hst (kd hm) (fun t e _ => ⟨r.tl, by have := flat_len_le e; omega, ihr (by omega)⟩) (fun _ q => absurd a q) (fun _ => ⟨hp, (ihl (by omega)).more (by omega)⟩)
    have e : flatStep f.p (flatD l) (flatD r) = flatD (.cat l r) := by unfold flatStep; rw [show f.p.kind = 6 from a]; rfl
    rw [e] at this; exact this
  | @alt to p l r h a kr hp kl ihr ihl =>
    obtain ⟨f, hf, rfl⟩ := piece_of h
    have hm := List.mem_of_getElem? hf
    have a : f.kind = 9 := a
    have z := z hm (by omega)
    simp only [DocT.tl] at hT ⊢
    have := l2flat_step (x := none) (y := flatD r) (T := l.tl + r.tl + 1) hl hf (by omega) (by omega) hx hst (kd hm) (fun t e => by cases e) (fun _ _ => (ihr (by omega)).more (by omega)) (fun q => by omega)
    have e : flatStep f.p none (flatD r) = flatD (.alt l r) := by unfold flatStep; rw [show f.p.kind = 9 from a]; rfl
    rw [e] at this; exact this
end Go.Proofs.YtfhpgfbakimmhaaE
/- The program's lead and flatText. -/
namespace Go.Proofs.YtfhpgfbakimmhaaE
open Go Go.RowKit
set_option linter.unusedVariables false
set_option linter.unusedSimpArgs false
set_option maxRecDepth 100000
set_option maxHeartbeats 8000000

theorem ok_lead : callOK Try.prog 94 = true := by kernel_rfl
theorem impl_lead (D : DocG) (hg : GoodD D.d) (ht : D.d.tl ≤ 140000) : ∀ {W : World}, DocAt W D → GivesV Try.prog 94 [D.v] W (vIB (leadD D.d)) := by
  induction D with
  | nil a =>
    intro W h
    have H := St.enter W
    refine calls_of_vcV (args := [.iface 148 (.pointer (some ⟨a, 0, none⟩))]) Try.func94 rfl (by kernel_rfl) (Nat.le_of_ble_eq_true rfl) ?_
    refine JoinV.mk ?_
    refine asN pt_text rfl ?_
    refine ifF ?_
    refine asN pt_line rfl ?_
    refine ifF ?_
    refine asN pt_cat rfl ?_
    refine ifF ?_
    refine asN pt_alt rfl ?_
    refine ifF ?_
    refine asN pt_nest rfl ?_
    refine ifF ?_
    refine asN pt_group rfl ?_
    refine ifF ?_
    exact Exists.intro _ (And.intro rfl (And.intro rfl H.none))
  | text a tv t =>
    intro W h
    have H := St.enter W
    refine calls_of_vcV (args := [.iface 154 (.pointer (some ⟨a, 0, none⟩))]) Try.func94 rfl (by kernel_rfl) (Nat.le_of_ble_eq_true rfl) ?_
    refine JoinV.mk ?_
    refine asY pt_text ?_
    refine ifT ?_
    refine loadS (v := .int .i64 (tw t)) ((h.1.ext H.below) 1 _ rfl) ?_
    exact Exists.intro _ (And.intro rfl (And.intro rfl H.none))
  | line a k =>
    intro W h
    have H := St.enter W
    refine calls_of_vcV (args := [.iface 157 (.pointer (some ⟨a, 0, none⟩))]) Try.func94 rfl (by kernel_rfl) (Nat.le_of_ble_eq_true rfl) ?_
    refine JoinV.mk ?_
    refine asN pt_text rfl ?_
    refine ifF ?_
    refine asY pt_line ?_
    refine ifT ?_
    exact Exists.intro _ (And.intro rfl (And.intro rfl H.none))
  | cat a l r ihl ihr =>
    intro W h
    have H := St.enter W
    refine calls_of_vcV (args := [.iface 160 (.pointer (some ⟨a, 0, none⟩))]) Try.func94 rfl (by kernel_rfl) (Nat.le_of_ble_eq_true rfl) ?_
    refine JoinV.mk ?_
    refine asN pt_text rfl ?_
    refine ifF ?_
    refine asN pt_line rfl ?_
    refine ifF ?_
    refine asY pt_cat ?_
    refine ifT ?_
    have hg1 := hg.1
    have hg2 := hg.2
    simp only [DocG.d, DocT.tl] at ht
    have ht1 : l.d.tl ≤ 140000 := by omega
    have ht2 : r.d.tl ≤ 140000 := by omega
    have b1 := lead_bound hg1
    have b2 := lead_bound hg2
    refine loadS (v := l.v) ((h.1.ext H.below) 0 _ rfl) ?_
    refine callV ok_lead (ihl hg1 ht1 (h.2.1.ext H.below)) H fun w H => ?_
    simp only [DocG.d, leadD]
    refine ifO (fun c0 => ?_) (fun c0 => ?_)
    · exact Exists.intro _ (And.intro rfl (And.intro (show Value.tuple #[.int .i64 (leadD l.d).1, .bool true] = _ by rw [if_pos c0]) H.none))
    · refine loadS (v := r.v) ((h.1.ext H.below) 1 _ rfl) ?_
      refine callV ok_lead (ihr hg2 ht2 (h.2.2.ext H.below)) H fun w H => ?_
      refine ar64 (by omega) (by omega) ?_
      exact Exists.intro _ (And.intro rfl (And.intro (show Value.tuple #[.int .i64 ((leadD l.d).1 + (leadD r.d).1), .bool (leadD r.d).2] = _ by rw [if_neg (by rw [c0]; decide)]) H.none))
  | alt a l r ihl ihr =>
    intro W h
    have H := St.enter W
    refine calls_of_vcV (args := [.iface 165 (.pointer (some ⟨a, 0, none⟩))]) Try.func94 rfl (by kernel_rfl) (Nat.le_of_ble_eq_true rfl) ?_
    refine JoinV.mk ?_
    refine asN pt_text rfl ?_
    refine ifF ?_
    refine asN pt_line rfl ?_
    refine ifF ?_
    refine asN pt_cat rfl ?_
    refine ifF ?_
    refine asY pt_alt ?_
    refine ifT ?_
    simp only [DocG.d, DocT.tl] at ht
    refine loadS (v := l.v) ((h.1.ext H.below) 0 _ rfl) ?_
    refine callV ok_lead (ihl hg.1 (by omega) (h.2.1.ext H.below)) H fun w H => ?_
    exact Exists.intro _ (And.intro rfl (And.intro rfl H.none))
  | nest a d n ih =>
    intro W h
    have H := St.enter W
    refine calls_of_vcV (args := [.iface 167 (.pointer (some ⟨a, 0, none⟩))]) Try.func94 rfl (by kernel_rfl) (Nat.le_of_ble_eq_true rfl) ?_
    refine JoinV.mk ?_
    refine asN pt_text rfl ?_
    refine ifF ?_
    refine asN pt_line rfl ?_
    refine ifF ?_
    refine asN pt_cat rfl ?_
    refine ifF ?_
    refine asN pt_alt rfl ?_
    refine ifF ?_
    refine asY pt_nest ?_
    refine ifT ?_
    simp only [DocG.d, DocT.tl] at ht
    refine loadS (v := d.v) ((h.1.ext H.below) 0 _ rfl) ?_
    refine callV ok_lead (ih hg.2 (by omega) (h.2.ext H.below)) H fun w H => ?_
    exact Exists.intro _ (And.intro rfl (And.intro rfl H.none))
  | group a d k ih =>
    intro W h
    have H := St.enter W
    refine calls_of_vcV (args := [.iface 115 (.pointer (some ⟨a, 0, none⟩))]) Try.func94 rfl (by kernel_rfl) (Nat.le_of_ble_eq_true rfl) ?_
    refine JoinV.mk ?_
    refine asN pt_text rfl ?_
    refine ifF ?_
    refine asN pt_line rfl ?_
    refine ifF ?_
    refine asN pt_cat rfl ?_
    refine ifF ?_
    refine asN pt_alt rfl ?_
    refine ifF ?_
    refine asN pt_nest rfl ?_
    refine ifF ?_
    refine asY pt_group ?_
    refine ifT ?_
    simp only [DocG.d, DocT.tl] at ht
    refine loadS (v := d.v) ((h.1.ext H.below) 0 _ rfl) ?_
    refine callV ok_lead (ih hg (by omega) (h.2.ext H.below)) H fun w H => ?_
    exact Exists.intro _ (And.intro rfl (And.intro rfl H.none))
theorem ok_flatText : callOK Try.prog 92 = true := by kernel_rfl
theorem impl_flatText {B : Nat} {W0 : World} {L : List It} (D : DocG) (hg : GoodD D.d) (ht : D.d.tl ≤ 140000) : (KeepL B W0 L fun w => DocAt w D) → ∀ (acc : List Int) (Ao : Option Addr) (co : Nat) (w : World), acc.length + D.d.tl ≤ 4294967296 → St B W0 w (.rowB (.slice Ao acc.length co) acc :: L) →
    Calls Try.prog 92 #[D.v, .slice Ao acc.length co] w (FlatR B W0 L acc (flatD D.d)) := by
  induction D with
  | nil a =>
    intro h acc Ao co w hacc H
    refine calls_of_vcV (args := [.iface 148 (.pointer (some ⟨a, 0, none⟩)), .slice Ao acc.length co]) Try.func92 rfl (by kernel_rfl) (Nat.le_of_ble_eq_true rfl) ?_
    refine JoinV.mk ?_
    refine asN pt_text rfl ?_
    refine ifF ?_
    refine asN pt_line rfl ?_
    refine ifF ?_
    refine asN pt_cat rfl ?_
    refine ifF ?_
    refine asN pt_alt rfl ?_
    refine ifF ?_
    refine asN pt_nest rfl ?_
    refine ifF ?_
    refine asN pt_group rfl ?_
    refine ifF ?_
    exact FlatR.nil H
  | text a tv t =>
    intro h acc Ao co w hacc H
    simp only [DocG.d, DocT.tl] at hacc
    have h0 := h _ _ H (fun it h => by simp [h])
    have r0 := h0.2
    obtain ⟨_, At, ct, rfl, _⟩ := id h0.2
    refine calls_of_vcV (args := [.iface 154 (.pointer (some ⟨a, 0, none⟩)), .slice Ao acc.length co]) Try.func92 rfl (by kernel_rfl) (Nat.le_of_ble_eq_true rfl) ?_
    refine JoinV.mk ?_
    refine asY pt_text ?_
    refine ifT ?_
    refine loadS (v := .slice At t.length ct) (h0.1 0 _ rfl) ?_
    refine appBS (xs := acc) (ys := t) H 0 rfl r0 (by omega) fun A6 c6 w H => ?_
    exact ⟨A6, c6, rfl, H⟩
  | line a k =>
    intro h acc Ao co w hacc H
    have h0 := h _ _ H (fun it h => by simp [h])
    simp only [DocG.d, DocT.tl] at hacc
    obtain ⟨r, hr⟩ : ∃ r, flatD (DocG.line a k).d = r := ⟨_, rfl⟩
    rw [hr]
    simp only [DocG.d, flatD] at hr
    refine calls_of_vcV (args := [.iface 157 (.pointer (some ⟨a, 0, none⟩)), .slice Ao acc.length co]) Try.func92 rfl (by kernel_rfl) (Nat.le_of_ble_eq_true rfl) ?_
    refine JoinV.mk ?_
    refine asN pt_text rfl ?_
    refine ifF ?_
    refine asY pt_line ?_
    refine ifT ?_
    refine JoinV.mk ?_
    refine loadS (v := .int .i64 k) (h0 0 _ rfl) ?_
    refine ifB (fun c0 => ?_) (fun c0 => ?_)
    · refine litBS (xs := [32]) H (by simp) (by kernel_rfl) fun A1 k1 w H => ?_
      refine appBS H 1 rfl (H.rd 0 rfl) (by first | omega | (simp; omega)) fun A2 k2 w H => ?_
      rw [if_pos c0] at hr
      subst hr
      exact ⟨A2, k2, rfl, H.tl⟩
    · refine ifB (fun c3 => ?_) (fun c3 => ?_)
      · rw [if_neg c0, if_pos c3] at hr
        subst hr
        exact FlatR.nil H
      · rw [if_neg c0, if_neg c3] at hr
        subst hr
        exact And.intro rfl H.tl
  | cat a l r ihl ihr =>
    intro h acc Ao co w hacc H
    simp only [DocG.d, DocT.tl] at ht hacc
    have h0 := h _ _ H (fun it h => by simp [h])
    have fl := ihl hg.1 (by omega) (fun w M H q => (h w M H q).2.1)
    have fr := ihr hg.2 (by omega) (fun w M H q => (h w M H q).2.2)
    refine calls_of_vcV (args := [.iface 160 (.pointer (some ⟨a, 0, none⟩)), .slice Ao acc.length co]) Try.func92 rfl (by kernel_rfl) (Nat.le_of_ble_eq_true rfl) ?_
    refine JoinV.mk ?_
    refine asN pt_text rfl ?_
    refine ifF ?_
    refine asN pt_line rfl ?_
    refine ifF ?_
    refine asY pt_cat ?_
    refine ifT ?_
    refine loadS (v := l.v) (h0.1 0 _ rfl) ?_
    refine CallS.mk ok_flatText ((fl acc Ao co _ (by omega) H).mono ?_)
    rintro e2 w2 hR
    simp only [DocG.d, flatD]
    cases hxe : flatD l.d with
    | none =>
      rw [hxe] at hR
      obtain ⟨rfl, H⟩ := hR
      refine ifNot ?_
      refine ifF ?_
      exact And.intro rfl H
    | some x =>
      rw [hxe] at hR
      obtain ⟨A2, c2, rfl, H⟩ := hR
      have hxl := flat_len_le hxe
      refine ifNot ?_
      refine ifT ?_
      have h2 := h _ _ H (fun it h => by simp [h])
      refine loadS (v := r.v) (h2.1 1 _ rfl) ?_
      refine CallS.mk ok_flatText ((fr (acc ++ x) A2 c2 _ (by rw [List.length_append]; omega) H).mono ?_)
      rintro e3 w3 hR
      cases hye : flatD r.d with
      | none =>
        rw [hye] at hR
        obtain ⟨rfl, H⟩ := hR
        exact And.intro rfl H
      | some y =>
        rw [hye] at hR
        obtain ⟨A3, c3, rfl, H⟩ := hR
        have q : FlatR B W0 L acc (some (x ++ y)) (.returned (.tuple #[.slice A3 (acc ++ x ++ y).length c3, .bool true])) w3 := ⟨A3, c3, by rw [List.append_assoc], by rw [← List.append_assoc]; exact H⟩
        exact q
  | alt a l r ihl ihr =>
    intro h acc Ao co w hacc H
    simp only [DocG.d, DocT.tl] at ht hacc
    have h0 := h _ _ H (fun it h => by simp [h])
    have fd := ihr hg.2 (by omega) (fun w M H q => (h w M H q).2.2)
    refine calls_of_vcV (args := [.iface 165 (.pointer (some ⟨a, 0, none⟩)), .slice Ao acc.length co]) Try.func92 rfl (by kernel_rfl) (Nat.le_of_ble_eq_true rfl) ?_
    refine JoinV.mk ?_
    refine asN pt_text rfl ?_
    refine ifF ?_
    refine asN pt_line rfl ?_
    refine ifF ?_
    refine asN pt_cat rfl ?_
    refine ifF ?_
    refine asY pt_alt ?_
    refine ifT ?_
    refine loadS (v := r.v) (h0.1 1 _ rfl) ?_
    refine CallS.mk ok_flatText ((fd acc Ao co _ (by omega) H).mono ?_)
    rintro e3 w3 hR
    simp only [DocG.d, flatD]
    cases hye : flatD r.d with
    | none =>
      rw [hye] at hR
      obtain ⟨rfl, H⟩ := hR
      exact And.intro rfl H
    | some y =>
      rw [hye] at hR
      obtain ⟨A3, c3, rfl, H⟩ := hR
      exact ⟨A3, c3, rfl, H⟩
  | nest a d n ih =>
    intro h acc Ao co w hacc H
    simp only [DocG.d, DocT.tl] at ht hacc
    have h0 := h _ _ H (fun it h => by simp [h])
    have fd := ih hg.2 (by omega) (fun w M H q => (h w M H q).2)
    refine calls_of_vcV (args := [.iface 167 (.pointer (some ⟨a, 0, none⟩)), .slice Ao acc.length co]) Try.func92 rfl (by kernel_rfl) (Nat.le_of_ble_eq_true rfl) ?_
    refine JoinV.mk ?_
    refine asN pt_text rfl ?_
    refine ifF ?_
    refine asN pt_line rfl ?_
    refine ifF ?_
    refine asN pt_cat rfl ?_
    refine ifF ?_
    refine asN pt_alt rfl ?_
    refine ifF ?_
    refine asY pt_nest ?_
    refine ifT ?_
    refine loadS (v := d.v) (h0.1 0 _ rfl) ?_
    refine CallS.mk ok_flatText ((fd acc Ao co _ (by omega) H).mono ?_)
    rintro e3 w3 hR
    simp only [DocG.d, flatD]
    cases hye : flatD d.d with
    | none =>
      rw [hye] at hR
      obtain ⟨rfl, H⟩ := hR
      exact And.intro rfl H
    | some y =>
      rw [hye] at hR
      obtain ⟨A3, c3, rfl, H⟩ := hR
      exact ⟨A3, c3, rfl, H⟩
  | group a d k ih =>
    intro h acc Ao co w hacc H
    simp only [DocG.d, DocT.tl] at ht hacc
    have h0 := h _ _ H (fun it h => by simp [h])
    have fd := ih hg (by omega) (fun w M H q => (h w M H q).2)
    refine calls_of_vcV (args := [.iface 115 (.pointer (some ⟨a, 0, none⟩)), .slice Ao acc.length co]) Try.func92 rfl (by kernel_rfl) (Nat.le_of_ble_eq_true rfl) ?_
    refine JoinV.mk ?_
    refine asN pt_text rfl ?_
    refine ifF ?_
    refine asN pt_line rfl ?_
    refine ifF ?_
    refine asN pt_cat rfl ?_
    refine ifF ?_
    refine asN pt_alt rfl ?_
    refine ifF ?_
    refine asN pt_nest rfl ?_
    refine ifF ?_
    refine asY pt_group ?_
    refine ifT ?_
    refine loadS (v := d.v) (h0.1 0 _ rfl) ?_
    refine CallS.mk ok_flatText ((fd acc Ao co _ (by omega) H).mono ?_)
    rintro e3 w3 hR
    simp only [DocG.d, flatD]
    cases hye : flatD d.d with
    | none =>
      rw [hye] at hR
      obtain ⟨rfl, H⟩ := hR
      exact And.intro rfl H
    | some y =>
      rw [hye] at hR
      obtain ⟨A3, c3, rfl, H⟩ := hR
      exact ⟨A3, c3, rfl, H⟩
end Go.Proofs.YtfhpgfbakimmhaaE
/- The reference's ValidDoc, FlatText, LeadWidth. -/
namespace Go.Proofs.YtfhpgfbakimmhaaE
open Go Go.RowKit
set_option linter.unusedVariables false
set_option linter.unusedSimpArgs false
set_option maxRecDepth 100000
set_option maxHeartbeats 8000000

theorem validD_none {ps : List PieceP} (h : ∀ g e, run0 ps ≠ some (g, [e])) : validD ps = none := by
  unfold validD
  split
  · unfold doneD
    split
    · rename_i g e heq; exact absurd heq (h g e)
    · rfl
  · rfl
structure DocOK (fs : List PieceG) : Prop where
  b : ∀ f ∈ fs, byteOK f.text ∧ f.text.length ≤ 4294967296
theorem ok_spec_ValidDoc : callOK Try.prog 39 = true := by kernel_rfl
theorem spec_ValidDoc {fs : List PieceG} {A : Option Addr} {n c : Nat} {W : World} (hx : RdPiece W (.slice A n c) n fs) (hl : n ≤ 4294967296) (hb : DocOK fs) : GivesV Try.prog 39 [.slice A n c] W (.bool (validD (fs.map PieceG.p)).isSome) := by
  have H := St.enter W
  obtain rfl := hx.len
  obtain ⟨ps, hps⟩ : ∃ ps, fs.map PieceG.p = ps := ⟨_, rfl⟩
  have hpl : ps.length = fs.length := by rw [← hps, List.length_map]
  rw [hps]
  have no : ∀ {w : World}, St W.heap.size W w [] → validD ps = none → ∃ v, Ending.returned (.bool false) = .returned v ∧ v = .bool (validD ps).isSome ∧ St W.heap.size W w [] := fun H h => ⟨_, rfl, by rw [h]; rfl, H⟩
  refine calls_of_vcV (args := [.slice A fs.length c]) Try.func39 rfl (by kernel_rfl) (Nat.le_of_ble_eq_true rfl) ?_
  refine RegV.mk ?_
  refine gF (fun c1 => ?_) (fun c1 => ?_)
  · refine ifB (fun c2 => ?_) (fun c2 => ?_)
    · exact no H (validD_size (by omega))
    · refine loopV (by kernel_rfl) (fun m e w => e 0 = .slice A fs.length c ∧ ∃ j : Nat, e 3 = .int .i64 (totalD (ps.take j)) ∧ e 4 = .int .i64 j ∧ j + m = fs.length ∧ totalD (ps.take j) ≤ j * 4294967296 ∧ (∀ p ∈ ps.take j, OkPiece p) ∧ St W.heap.size W w []) fs.length
        ⟨rfl, 0, rfl, rfl, by omega, Nat.zero_le _, by simp, H⟩ ?_
      rintro m e w ⟨h0, j, h3, h4, hj, htb, hok, H⟩
      rw [Env.three h0 h3 h4]
      refine ifB (fun c3 => ?_) (fun c3 => ?_)
      · obtain ⟨f, hf⟩ : ∃ f, fs[j]? = some f := ⟨_, List.getElem?_eq_getElem (by omega)⟩
        have hfm := List.mem_of_getElem? hf
        have hp := pieces_take hf
        rw [hps] at hp
        have hts := total_snoc hp
        have hbf := hb.b f hfm
        have hkf := hx.kids f hfm
        have htk : ps.take (j + 1) = ps.take j ++ [f.p] := by rw [List.take_add_one, hp]; rfl
        have hft : f.p.text.length = f.text.length := rfl
        obtain ⟨A0, c0, e0⟩ := PieceG.shape hkf
        obtain ⟨textV, kind, text, nn⟩ := f
        dsimp only at *
        subst e0
        have htb2 : totalD (ps.take (j + 1)) ≤ (j + 1) * 4294967296 := by rw [hts, hft]; omega
        refine JoinV.mk ?_
        refine idxC (cells := PieceG.cells) PieceG.cells_len (hx.ext H.below).row hf (by omega) fun b off hc => ?_
        refine loadS (v := .slice A0 text.length c0) (hc 1 _ rfl) ?_
        refine ar64 (by omega) (by omega) ?_
        refine idxC (cells := PieceG.cells) PieceG.cells_len (hx.ext H.below).row hf (by omega) fun b off hc => ?_
        refine loadS (v := .int .i64 kind) (hc 0 _ rfl) ?_
        refine loadS (v := .slice A0 text.length c0) (hc 1 _ rfl) ?_
        refine loadS (v := .int .i64 nn) (hc 2 _ rfl) ?_
        refine callV ok_l2pieceOK (spec_l2pieceOK (f := ⟨.slice A0 text.length c0, kind, text, nn⟩) (hkf.ext H.below) hbf.2 hbf.1) H fun w H => ?_
        by_cases hq : OkPiece ⟨kind, text, nn⟩
        · rw [show okPiece (PieceG.p ⟨.slice A0 text.length c0, kind, text, nn⟩) = true from okPiece_iff.2 hq]
          refine ifNot ?_
          refine ifT ?_
          refine arN (by omega) ?_
          exact Exists.intro (m - 1) (And.intro (by omega) ⟨rfl, j + 1, congrArg (Value.int .i64) (by rw [hts]; exact (Int.natCast_add _ _).symm), rfl, by omega, htb2, (fun p hp => by rw [htk] at hp; rcases List.mem_append.1 hp with q | q; exact hok p q; exact List.mem_singleton.1 q ▸ hq), H⟩)
        · rw [show okPiece (PieceG.p ⟨.slice A0 text.length c0, kind, text, nn⟩) = false from okPiece_no hq]
          refine ifNot ?_
          refine ifF ?_
          exact no H (validD_piece (List.mem_of_getElem? hp) hq)
      · have hall : ps.take j = ps := List.take_of_length_le (by omega)
        rw [hall] at htb hok ⊢
        refine CallS.mk ok_l2starts ((spec_l2starts (hx.ext H.below) (by omega)).mono ?_)
        rintro _ w2 ⟨A', c', xs, rfl, hxs, H2⟩
        have H := H.joinS H2 rfl
        rw [hps] at hxs
        refine RegV.mk ?_
        refine gF (fun c1 => ?_) (fun c1 => ?_)
        · refine ifB (fun c2 => ?_) (fun c2 => ?_)
          · refine no H.none (validD_none fun g e hr => ?_)
            have := hxs.1 g e hr
            rw [this, startsL_len] at c2; omega
          · by_cases hs : ∃ g e, run0 ps = some (g, [e])
            · obtain ⟨g, e, hr⟩ := hs
              obtain ⟨h1, h2, h3⟩ := run_loc hr
              have hxe := hxs.1 g e hr
              have hxl : xs.length = fs.length := by omega
              have hnn := nestS_eq (h1.nn hok)
              have hst : RdSt w2 A' fs.length c' ps := by have := H.rd 0 rfl; rw [hxl, hxe, hpl] at this; exact this
              rw [hxl]
              refine callV ok_l2nested (u := .int .i64 (nestS e.d)) (by have := spec_l2nested (fs := fs) (A := A) (As := A') (c := c) (cs := c') (by omega) (by rw [hps]; exact hok) (d := e.d) (to := fs.length) (by rw [hps, ← hpl]; exact h1) (hx.ext H.below) (by rw [hps]; exact hst); exact this) H fun w H => ?_
              refine Exists.intro _ (And.intro rfl (And.intro (congrArg Value.bool ?_) H.none))
              show decide (nestS e.d ≤ 4000) = _
              by_cases hd : e.d.nestD ≤ 4000
              · rw [decide_eq_true (by omega), validD_some (by omega) hok (by omega) hr hd]; rfl
              · rw [decide_eq_false (by omega), validD_deep (i := ps.length) (e := e) (by rw [List.take_length]; exact hr) (by simp) (by omega)]; rfl
            · exfalso
              rcases hxs.2 (fun g e h => hs ⟨g, e, h⟩) with q | q
              · omega
              · rw [q] at hpl; simp only [List.length_nil] at hpl; omega
        · refine ifT ?_
          exact no H.none (validD_total ps.length (by rw [List.take_length]; omega))
  · refine ifT ?_
    exact no H (validD_size (by omega))
def flatF (ps : List PieceP) : List Int × Bool := match validD ps with | some (d, _) => (match flatD d with | some t => (t, true) | none => ([], false)) | none => ([], false)
def leadF (ps : List PieceP) : Int := match validD ps with | some (d, _) => (leadD d).1 | none => -1
theorem doc_starts {fs : List PieceG} {d : DocT} {g : Nat} (h : validD (fs.map PieceG.p) = some (d, g)) {n : Nat} (hn : n = fs.length) {A : Option Addr} {c : Nat} {xs : List Int} (hs : StartsOk (fs.map PieceG.p) xs) {B : Nat} {W0 w : World} {L : List It} (H : St B W0 w L) (hm : .rowI (.slice A xs.length c) xs ∈ L) : xs.length = n ∧ RdSt w A n c (fs.map PieceG.p) := by
  have v := validOf h
  have e := v.starts xs hs
  rw [List.length_map] at e
  have e2 : xs.length = n := by rw [e, startsL_len, hn]
  have r := H.rdm hm (v := .slice A xs.length c) (sz := 1) (n := xs.length) (cs := xs.map (.int .i64)) rfl
  rw [e2] at r
  refine ⟨e2, ?_⟩
  rw [e, ← hn] at r
  exact r
theorem ok_spec_LeadWidth : callOK Try.prog 46 = true := by kernel_rfl
theorem spec_LeadWidth {fs : List PieceG} {A : Option Addr} {n c : Nat} {W : World} (hx : RdPiece W (.slice A n c) n fs) (hl : n ≤ 4294967296) (hb : DocOK fs) : GivesV Try.prog 46 [.slice A n c] W (.int .i64 (leadF (fs.map PieceG.p))) := by
  have H := St.enter W
  have hn := hx.len
  obtain ⟨r, hr⟩ : ∃ r, leadF (fs.map PieceG.p) = r := ⟨_, rfl⟩
  rw [hr]
  unfold leadF at hr
  refine calls_of_vcV (args := [.slice A n c]) Try.func46 rfl (by kernel_rfl) (Nat.le_of_ble_eq_true rfl) ?_
  refine callV ok_spec_ValidDoc (spec_ValidDoc hx hl hb) H fun w H => ?_
  cases hv : validD (fs.map PieceG.p) with
  | none =>
    rw [hv] at hr
    have hr : -1 = r := hr
    subst hr
    refine ifNot ?_
    refine ifF ?_
    exact Exists.intro _ (And.intro rfl (And.intro rfl H))
  | some dg =>
    obtain ⟨d, g⟩ := dg
    rw [hv] at hr
    have hr : (leadD d).1 = r := hr
    have v := validOf hv
    refine ifNot ?_
    refine ifT ?_
    refine CallS.mk ok_l2starts ((spec_l2starts (hx.ext H.below) (by omega)).mono ?_)
    rintro _ w2 ⟨A', c', xs, rfl, hxs, H2⟩
    have H := H.joinS H2 rfl
    have hs := doc_starts (A := A') (c := c') hv hn hxs H (by simp)
    rw [hs.1]
    refine callV ok_l2lead (u := vIB (leadD d)) (by have := spec_l2lead (A := A) (As := A') (c := c) (cs := c') hl v.ok hb.b v.loc v.tl (hx.ext H.below) hs.2; rw [List.length_map, ← hn] at this; exact this) H fun w H => ?_
    subst hr
    exact Exists.intro _ (And.intro rfl (And.intro rfl H.none))
theorem ok_spec_FlatText : callOK Try.prog 43 = true := by kernel_rfl
theorem spec_FlatText {fs : List PieceG} {A : Option Addr} {n c : Nat} {W : World} (hx : RdPiece W (.slice A n c) n fs) (hl : n ≤ 4294967296) (hb : DocOK fs) : Calls Try.prog 43 #[.slice A n c] W fun e w => ∃ A' c', e = .returned (.tuple #[.slice A' (flatF (fs.map PieceG.p)).1.length c', .bool (flatF (fs.map PieceG.p)).2]) ∧ St W.heap.size W w [.rowB (.slice A' (flatF (fs.map PieceG.p)).1.length c') (flatF (fs.map PieceG.p)).1] := by
  have H := St.enter W
  have hn := hx.len
  obtain ⟨r, hr⟩ : ∃ r, flatF (fs.map PieceG.p) = r := ⟨_, rfl⟩
  rw [hr]
  unfold flatF at hr
  refine calls_of_vcV (args := [.slice A n c]) Try.func43 rfl (by kernel_rfl) (Nat.le_of_ble_eq_true rfl) ?_
  refine callV ok_spec_ValidDoc (spec_ValidDoc hx hl hb) H fun w H => ?_
  cases hv : validD (fs.map PieceG.p) with
  | none =>
    rw [hv] at hr
    have hr : ([], false) = r := hr
    subst hr
    refine ifNot ?_
    refine ifF ?_
    have H1 : St W.heap.size W w [.rowB (.slice none ([] : List Int).length 0) []] := H.rowNil
    exact Exists.intro none (Exists.intro 0 (And.intro rfl H1))
  | some dg =>
    obtain ⟨d, g⟩ := dg
    rw [hv] at hr
    simp only at hr
    have v := validOf hv
    refine ifNot ?_
    refine ifT ?_
    refine CallS.mk ok_l2starts ((spec_l2starts (hx.ext H.below) (by omega)).mono ?_)
    rintro _ w2 ⟨A', c', xs, rfl, hxs, H2⟩
    have H := H.joinS H2 rfl
    have hs := doc_starts (A := A') (c := c') hv hn hxs H (by simp)
    have H1 : St W.heap.size W w2 (.rowB (.slice none ([] : List Int).length 0) [] :: [.rowI (.slice A' xs.length c') xs]) := H.rowNil
    have hf := spec_l2flat (A := A) (As := A') (c := c) (cs := c') (B := W.heap.size) (W0 := W) (L := [.rowI (.slice A' xs.length c') xs]) hl v.ok (fun w M H _ => hx.ext H.below) (fun w M H h => (doc_starts (A := A') (c := c') hv hn hxs H (h _ (by simp))).2) v.loc v.tl [] none 0 w2 (by have := v.tl; simp only [List.length_nil]; omega) H1 (n : Int) (by rw [List.length_map, hn])
    rw [hs.1]
    refine CallS.mk ok_l2flat (hf.mono ?_)
    rintro e3 w3 hR
    cases hfd : flatD d with
    | none =>
      rw [hfd] at hR hr
      have hr : ([], false) = r := hr
      subst hr
      obtain ⟨rfl, H⟩ := hR
      have H1 : St W.heap.size W w3 (.rowB (.slice none ([] : List Int).length 0) [] :: [.rowI (.slice A' xs.length c') xs]) := H.rowNil
      exact Exists.intro none (Exists.intro 0 (And.intro rfl (H1.sel (fun q => by simp only [cntL_append, cntL, List.cons_append, List.nil_append, List.set_cons_zero, List.set_cons_succ, List.flatMap_append, List.flatMap_cons, List.flatMap_nil, It.rowF, It.rowB, It.rowI, It.roB, It.roI]; omega))))
    | some t =>
      rw [hfd] at hR hr
      have hr : (t, true) = r := hr
      subst hr
      obtain ⟨A3, c3, rfl, H⟩ := hR
      exact Exists.intro A3 (Exists.intro c3 (And.intro rfl (H.sel (fun q => by simp only [cntL_append, cntL, List.cons_append, List.nil_append, List.set_cons_zero, List.set_cons_succ, List.flatMap_append, List.flatMap_cons, List.flatMap_nil, It.rowF, It.rowB, It.rowI, It.roB, It.roI]; omega))))
end Go.Proofs.YtfhpgfbakimmhaaE
/- The program's ValidDoc, FlatText, LeadWidth. -/
namespace Go.Proofs.YtfhpgfbakimmhaaE
open Go Go.RowKit
set_option linter.unusedVariables false
set_option linter.unusedSimpArgs false
set_option maxRecDepth 100000
set_option maxHeartbeats 8000000

theorem ok_impl_ValidDoc : callOK Try.prog 41 = true := by kernel_rfl
theorem impl_ValidDoc {fs : List PieceG} {A : Option Addr} {n c : Nat} {W : World} (hx : RdPiece W (.slice A n c) n fs) (hl : n ≤ 4294967296) (hb : DocOK fs) : GivesV Try.prog 41 [.slice A n c] W (.bool (validD (fs.map PieceG.p)).isSome) := by
  have H := St.enter W
  refine calls_of_vcV (args := [.slice A n c]) Try.func41 rfl (by kernel_rfl) (Nat.le_of_ble_eq_true rfl) ?_
  refine CallS.mk ok_docOf ((impl_docOf hx hl hb.b).mono ?_)
  rintro e w hR
  cases hv : validD (fs.map PieceG.p) with
  | none =>
    rw [hv] at hR
    obtain ⟨rfl, H⟩ := hR
    exact Exists.intro _ (And.intro rfl (And.intro rfl H))
  | some dg =>
    obtain ⟨d, g⟩ := dg
    rw [hv] at hR
    obtain ⟨D, hD, rfl, hT, H⟩ := hR
    exact Exists.intro _ (And.intro rfl (And.intro rfl H.none))
theorem ok_impl_LeadWidth : callOK Try.prog 47 = true := by kernel_rfl
theorem impl_LeadWidth {fs : List PieceG} {A : Option Addr} {n c : Nat} {W : World} (hx : RdPiece W (.slice A n c) n fs) (hl : n ≤ 4294967296) (hb : DocOK fs) : GivesV Try.prog 47 [.slice A n c] W (.int .i64 (leadF (fs.map PieceG.p))) := by
  have H := St.enter W
  obtain ⟨r, hr⟩ : ∃ r, leadF (fs.map PieceG.p) = r := ⟨_, rfl⟩
  rw [hr]
  unfold leadF at hr
  refine calls_of_vcV (args := [.slice A n c]) Try.func47 rfl (by kernel_rfl) (Nat.le_of_ble_eq_true rfl) ?_
  refine CallS.mk ok_docOf ((impl_docOf hx hl hb.b).mono ?_)
  rintro e w hR
  cases hv : validD (fs.map PieceG.p) with
  | none =>
    rw [hv] at hR hr
    obtain ⟨rfl, H⟩ := hR
    have hr : -1 = r := hr
    subst hr
    refine ifNot ?_
    refine ifF ?_
    exact Exists.intro _ (And.intro rfl (And.intro rfl H))
  | some dg =>
    obtain ⟨d, g⟩ := dg
    have v := validOf hv
    rw [hv] at hR hr
    obtain ⟨D, hD, rfl, hT, H⟩ := hR
    have hr : (leadD d).1 = r := hr
    subst hr
    refine ifNot ?_
    refine ifT ?_
    refine callV ok_lead (impl_lead D (by rw [hD]; exact v.good) (by rw [hD]; exact v.tl) (docAt H (fun it h => h) (hT.ext H.below))) H fun w H => ?_
    rw [hD]
    exact Exists.intro _ (And.intro rfl (And.intro rfl H.none))
theorem ok_impl_FlatText : callOK Try.prog 44 = true := by kernel_rfl
theorem impl_FlatText {fs : List PieceG} {A : Option Addr} {n c : Nat} {W : World} (hx : RdPiece W (.slice A n c) n fs) (hl : n ≤ 4294967296) (hb : DocOK fs) : Calls Try.prog 44 #[.slice A n c] W fun e w => ∃ A' c', e = .returned (.tuple #[.slice A' (flatF (fs.map PieceG.p)).1.length c', .bool (flatF (fs.map PieceG.p)).2]) ∧ St W.heap.size W w [.rowB (.slice A' (flatF (fs.map PieceG.p)).1.length c') (flatF (fs.map PieceG.p)).1] := by
  have H := St.enter W
  obtain ⟨r, hr⟩ : ∃ r, flatF (fs.map PieceG.p) = r := ⟨_, rfl⟩
  rw [hr]
  unfold flatF at hr
  refine calls_of_vcV (args := [.slice A n c]) Try.func44 rfl (by kernel_rfl) (Nat.le_of_ble_eq_true rfl) ?_
  refine CallS.mk ok_docOf ((impl_docOf hx hl hb.b).mono ?_)
  rintro e w hR
  cases hv : validD (fs.map PieceG.p) with
  | none =>
    rw [hv] at hR hr
    obtain ⟨rfl, H⟩ := hR
    have hr : ([], false) = r := hr
    subst hr
    refine ifNot ?_
    refine ifF ?_
    have H1 : St W.heap.size W w [.rowB (.slice none ([] : List Int).length 0) []] := H.rowNil
    exact Exists.intro none (Exists.intro 0 (And.intro rfl H1))
  | some dg =>
    obtain ⟨d, g⟩ := dg
    have v := validOf hv
    rw [hv] at hR hr
    simp only at hr
    obtain ⟨D, hD, rfl, hT, H⟩ := hR
    have H1 : St W.heap.size W w (.rowB (.slice none ([] : List Int).length 0) [] :: D.own) := H.rowNil
    have hf := impl_flatText (B := W.heap.size) (W0 := W) (L := D.own) D (by rw [hD]; exact v.good) (by rw [hD]; exact v.tl) (fun w M H h => docAt H h (hT.ext H.below)) [] none 0 w (by rw [hD]; have := v.tl; simp only [List.length_nil]; omega) H1
    rw [hD] at hf
    refine ifNot ?_
    refine ifT ?_
    refine CallS.mk ok_flatText (hf.mono ?_)
    rintro e3 w3 hR
    cases hfd : flatD d with
    | none =>
      rw [hfd] at hR hr
      have hr : ([], false) = r := hr
      subst hr
      obtain ⟨rfl, H⟩ := hR
      have H1 : St W.heap.size W w3 (.rowB (.slice none ([] : List Int).length 0) [] :: D.own) := H.rowNil
      exact Exists.intro none (Exists.intro 0 (And.intro rfl (H1.sel (fun q => by simp only [cntL_append, cntL, List.cons_append, List.nil_append, List.set_cons_zero, List.set_cons_succ, List.flatMap_append, List.flatMap_cons, List.flatMap_nil, It.rowF, It.rowB, It.rowI, It.roB, It.roI]; omega))))
    | some t =>
      rw [hfd] at hR hr
      have hr : (t, true) = r := hr
      subst hr
      obtain ⟨A3, c3, rfl, H⟩ := hR
      exact Exists.intro A3 (Exists.intro c3 (And.intro rfl (H.sel (fun q => by simp only [cntL_append, cntL, List.cons_append, List.nil_append, List.set_cons_zero, List.set_cons_succ, List.flatMap_append, List.flatMap_cons, List.flatMap_nil, It.rowF, It.rowB, It.rowI, It.roB, It.roI]; omega))))
end Go.Proofs.YtfhpgfbakimmhaaE
/- What the laws over documents share. -/
namespace Go.Proofs.YtfhpgfbakimmhaaE
open Go Go.RowKit
set_option linter.unusedVariables false
set_option linter.unusedSimpArgs false
set_option maxRecDepth 100000
set_option maxHeartbeats 2000000

theorem szI_okD {k : Nat} (h : ¬ szI 1048576 k < 0) : k ≤ 1048576 := by unfold szI at h; split at h <;> omega
theorem byte_ofP {fs gs : List PieceG} (h : gs.map PieceG.p = fs.map PieceG.p) (hs : ∀ f ∈ fs, byteOK f.text) : ∀ g ∈ gs, byteOK g.text := fun g hg => by
  have : g.p ∈ fs.map PieceG.p := h ▸ List.mem_map_of_mem hg
  obtain ⟨f, hf, he⟩ := List.mem_map.1 this
  have := hs f hf
  simp only [PieceG.p, PieceP.mk.injEq] at he
  exact he.2.1 ▸ this
theorem docOK_of {fs gs : List PieceG} (h : gs.map PieceG.p = fs.map PieceG.p) (hs : ∀ f ∈ fs, SmallPiece f) (hb : ∀ f ∈ fs, byteOK f.text) : DocOK gs := ⟨fun g hg => ⟨byte_ofP h hb g hg, (smallPiece_p h hs g hg).text⟩⟩
theorem rdPm {w : World} {B : Nat} {W0 : World} {L : List It} (H : St B W0 w L) (v : Value) (n : Nat) (gs : List PieceG) (h0 : It.rowPiece v n gs ∈ L) (h : ∀ it ∈ gs.flatMap PieceG.own, it ∈ L) : RdPiece w v n gs := rdPieceo H h0 h
end Go.Proofs.YtfhpgfbakimmhaaE
/- The reference's l3groups, l3newLine, l3behind, l3markFlat. -/
namespace Go.Proofs.YtfhpgfbakimmhaaE
open Go Go.RowKit
set_option linter.unusedVariables false
set_option linter.unusedSimpArgs false
set_option maxRecDepth 100000
set_option maxHeartbeats 8000000

def groupsL (ps : List PieceP) (n : Nat) : List Int := (List.range (n + 1)).map fun i => (cntG (ps.take i) : Int)
theorem groupsL_len (ps : List PieceP) (n : Nat) : (groupsL ps n).length = n + 1 := by simp [groupsL]
theorem groupsL_snoc (ps : List PieceP) (n : Nat) : groupsL ps (n + 1) = groupsL ps n ++ [(cntG (ps.take (n + 1)) : Int)] := by simp [groupsL, List.range_succ]
theorem groupsL_get {ps : List PieceP} {n i : Nat} (h : i ≤ n) : (groupsL ps n).getD i 0 = cntG (ps.take i) := by
  simp [groupsL, List.getD_eq_getElem?_getD, show i < n + 1 by omega]
theorem cntG_take_le (ps : List PieceP) (i : Nat) : cntG (ps.take i) ≤ i := Nat.le_trans (List.length_filter_le _ _) (List.length_take_le _ _)
theorem ok_l3groups : callOK Try.prog 95 = true := by kernel_rfl
theorem spec_l3groups {fs : List PieceG} {A : Option Addr} {n c : Nat} {W : World} (hx : RdPiece W (.slice A n c) n fs) (hl : n ≤ 4294967295) :
    Calls Try.prog 95 #[.slice A n c] W fun e w => ∃ A' c', e = .returned (.slice A' (groupsL (fs.map PieceG.p) n).length c') ∧ St W.heap.size W w [.rowI (.slice A' (groupsL (fs.map PieceG.p) n).length c') (groupsL (fs.map PieceG.p) n)] := by
  have H := St.enter W
  obtain rfl := hx.len
  obtain ⟨ps, hps⟩ : ∃ ps, fs.map PieceG.p = ps := ⟨_, rfl⟩
  have hpl : ps.length = fs.length := by rw [← hps, List.length_map]
  rw [hps]
  refine calls_of_vcV (args := [.slice A fs.length c]) Try.func95 rfl (by kernel_rfl) (Nat.le_of_ble_eq_true rfl) ?_
  refine litIS (xs := [0]) H (by simp) (by kernel_rfl) fun A0 k0 w H => ?_
  refine loopV (by kernel_rfl) (fun m e w => e 0 = .slice A fs.length c ∧ ∃ (j : Nat) (A3 : Option Addr) (c3 : Nat), e 3 = .slice A3 (groupsL ps j).length c3 ∧ e 4 = .int .i64 j ∧ j + m = fs.length ∧ St W.heap.size W w [.rowI (.slice A3 (groupsL ps j).length c3) (groupsL ps j)]) fs.length ?_ ?_
  · exact And.intro rfl ⟨0, _, _, rfl, rfl, by omega, H⟩
  · rintro m e w ⟨h0, j, A3, c3, h3, h4, hj, H⟩
    rw [Env.three h0 h3 h4]
    refine ifB (fun c0 => ?_) (fun c0 => ?_)
    · obtain ⟨f, hf⟩ : ∃ f, fs[j]? = some f := ⟨_, List.getElem?_eq_getElem (by omega)⟩
      have hp : ps[j]? = some f.p := by rw [← hps, List.getElem?_map, hf]; rfl
      have hcs := cntG_snoc hp
      have hgl := groupsL_len ps j
      have hgs := groupsL_snoc ps j
      have hle := cntG_take_le ps j
      refine JoinV.mk ?_
      refine idxN (H.rd 0 rfl) (by omega) fun b off hc => ?_
      refine loadS hc ?_
      rw [groupsL_get (Nat.le_refl j)]
      refine JoinV.mk ?_
      refine idxC (cells := PieceG.cells) PieceG.cells_len (hx.ext H.below).row hf (by omega) fun b off hc => ?_
      refine loadS (v := .int .i64 f.kind) (hc 0 _ rfl) ?_
      refine ifB (fun c0 => ?_) (fun c0 => ?_)
      · refine arN (by omega) ?_
        refine litIS (xs := [↑(cntG (List.take j ps) + 1)]) H (by simp) (by kernel_rfl) fun A2 k2 w H => ?_
        refine appIS H 1 rfl (H.rd 0 rfl) (by first | omega | (simp; omega)) fun A3 k3 w H => ?_
        refine arN (by omega) ?_
        have e1 : groupsL ps (j + 1) = groupsL ps j ++ [((cntG (ps.take j) + 1 : Nat) : Int)] := by rw [hgs, hcs, if_pos (show f.p.kind = 8 from c0)]
        exact Exists.intro (m - 1) (And.intro (by omega) (And.intro rfl ⟨j + 1, A3, k3, congrArg (fun x : List Int => Value.slice A3 x.length k3) e1.symm, rfl, by omega, by rw [e1]; exact H.tl⟩))
      · refine litIS (xs := [↑(cntG (List.take j ps))]) H (by simp) (by kernel_rfl) fun A5 k5 w H => ?_
        refine appIS H 1 rfl (H.rd 0 rfl) (by first | omega | (simp; omega)) fun A6 k6 w H => ?_
        refine arN (by omega) ?_
        have e1 : groupsL ps (j + 1) = groupsL ps j ++ [((cntG (ps.take j) : Nat) : Int)] := by rw [hgs, hcs, if_neg (show ¬ f.p.kind = 8 from c0)]; rfl
        exact Exists.intro (m - 1) (And.intro (by omega) (And.intro rfl ⟨j + 1, A6, k6, congrArg (fun x : List Int => Value.slice A6 x.length k6) e1.symm, rfl, by omega, by rw [e1]; exact H.tl⟩))
    · have hj2 : j = fs.length := by omega
      subst hj2
      exact ⟨A3, c3, rfl, H⟩
theorem ok_l3newLine : callOK Try.prog 118 = true := by kernel_rfl
theorem spec_l3newLine {ind : Int} {W : World} (h0 : 0 ≤ ind) (h1 : ind ≤ 4294967296) :
    Calls Try.prog 118 #[.int .i64 ind] W fun e w => ∃ A' c', e = .returned (.slice A' ([10] ++ spaces ind).length c') ∧ St W.heap.size W w [.rowB (.slice A' ([10] ++ spaces ind).length c') ([10] ++ spaces ind)] := by
  have H := St.enter W
  refine calls_of_vcV (args := [.int .i64 ind]) Try.func118 rfl (by kernel_rfl) (Nat.le_of_ble_eq_true rfl) ?_
  refine litBS (xs := [10]) H (by simp) (by kernel_rfl) fun A0 k0 w H => ?_
  refine loopV (by kernel_rfl) (fun m e w => e 0 = .int .i64 ind ∧ ∃ (j : Nat) (A3 : Option Addr) (c3 : Nat), e 3 = .slice A3 ([10] ++ List.replicate j (32 : Int)).length c3 ∧ e 4 = .int .i64 j ∧ (j : Int) ≤ ind ∧ m = ind.toNat - j ∧ St W.heap.size W w [.rowB (.slice A3 ([10] ++ List.replicate j (32 : Int)).length c3) ([10] ++ List.replicate j 32)]) ind.toNat ?_ ?_
  · exact And.intro rfl ⟨0, _, _, rfl, rfl, h0, rfl, H⟩
  · rintro m e w ⟨h0', j, A3, c3, h3, h4, hj, hm, H⟩
    have hXl : ([10] ++ List.replicate j (32 : Int)).length = j + 1 := by simp
    rw [Env.three h0' h3 h4]
    refine ifB (fun c0 => ?_) (fun c0 => ?_)
    · refine litBS (xs := [32]) H (by simp) (by kernel_rfl) fun A1 k1 w H => ?_
      refine appBS H 1 rfl (H.rd 0 rfl) (by first | omega | (simp; omega)) fun A2 k2 w H => ?_
      refine arN (by omega) ?_
      have e1 : [10] ++ List.replicate (j + 1) (32 : Int) = [10] ++ List.replicate j 32 ++ [32] := by rw [List.replicate_succ', List.append_assoc]
      exact Exists.intro (ind.toNat - (j + 1)) (And.intro (by omega) (And.intro rfl ⟨j + 1, A2, k2, congrArg (fun x : List Int => Value.slice A2 x.length k2) e1.symm, rfl, by omega, rfl, by rw [e1]; exact H.tl⟩))
    · have e1 : [10] ++ List.replicate j (32 : Int) = [10] ++ spaces ind := by unfold spaces; rw [show ind.toNat = j by omega]
      exact ⟨A3, c3, congrArg (fun x : List Int => Ending.returned (Value.slice A3 x.length c3)) e1, by rw [← e1]; exact H⟩
/-! ## what is behind -/
abbrev ItS := DocT × Nat × Int
def itC (x : ItS) : List Value := [.int .i64 x.2.1, .int .i64 x.2.2]
theorem itC_len (x : ItS) : (itC x).length = 2 := rfl
def itV (l : List ItS) : List Value := l.reverse.flatMap itC
def toDS (l : List ItS) : List ItD := l.map fun x => (x.1, x.2.2)
theorem itV_len (l : List ItS) : (itV l).length = l.length * 2 := by unfold itV; rw [flat_len itC_len, List.length_reverse]
theorem itV_cons (x : ItS) (l : List ItS) : itV (x :: l) = itV l ++ [.int .i64 x.2.1, .int .i64 x.2.2] := by
  unfold itV; rw [List.reverse_cons, List.flatMap_append]; rfl
theorem tl_posS (d : DocT) : 0 < d.tl := by cases d <;> simp only [DocT.tl] <;> omega
theorem len_sumTS : ∀ l : List ItS, l.length ≤ sumT (toDS l)
  | [] => Nat.zero_le _
  | x :: l => by
    have := len_sumTS l
    have := tl_posS x.1
    show l.length + 1 ≤ sumT ((x.1, x.2.2) :: toDS l)
    have e := sumT_cons (x.1, x.2.2) (toDS l)
    simp only at e
    omega
theorem cons_ofS {α : Type} {l : List α} (h : 0 < l.length) : ∃ x r, l = x :: r := by cases l with
  | nil => cases h
  | cons x r => exact ⟨x, r, rfl⟩
theorem ok_l3behind : callOK Try.prog 119 = true := by kernel_rfl
theorem spec_l3behind {fs : List PieceG} {A As Ar : Option Addr} {n c cs nr cr : Nat} {W : World} {l : List ItS} (hl : n ≤ 4294967295) (hok : ∀ p ∈ fs.map PieceG.p, OkPiece p) (hb : DocOK fs) (hx : RdPiece W (.slice A n c) n fs) (hst : RdSt W As n cs (fs.map PieceG.p)) (hr : Rd W (.slice Ar nr cr) 2 nr (itV l)) (hL : ∀ x ∈ l, Loc (fs.map PieceG.p) x.1 x.2.1) (ht : sumT (toDS l) ≤ 140000) :
    GivesV Try.prog 119 [.slice A n c, .slice As n cs, .slice Ar nr cr] W (.int .i64 (behindD (toDS l))) := by
  have H := (St.enter W).ro0 rfl hr
  have hlen := len_sumTS l
  obtain rfl : nr = l.length := by have := hr.len; rw [itV_len] at this; omega
  refine calls_of_vcV (args := [.slice A n c, .slice As n cs, .slice Ar l.length cr]) Try.func119 rfl (by kernel_rfl) (Nat.le_of_ble_eq_true rfl) ?_
  refine ar64 (by omega) (by omega) ?_
  refine loopV (by kernel_rfl) (fun m e w => e 0 = .slice A n c ∧ e 1 = .slice As n cs ∧ e 2 = .slice Ar l.length cr ∧ ∃ (l1 r : List ItS) (acc : Int), l = l1 ++ r ∧ m = r.length ∧ e 7 = .int .i64 acc ∧ e 8 = .int .i64 ((r.length : Int) - 1) ∧ acc + behindD (toDS r) = behindD (toDS l) ∧ 0 ≤ acc ∧ acc + sumT (toDS r) ≤ 140000 ∧ St W.heap.size W w [.ro (.slice Ar l.length cr) 2 l.length (itV l)]) l.length ?_ ?_
  · exact And.intro rfl (And.intro rfl (And.intro rfl ⟨[], l, 0, rfl, rfl, rfl, rfl, by omega, by omega, by omega, H⟩))
  · rintro m e w ⟨h0, h1, h2, l1, r, acc, hll, hm, h7, h8, hsum, ha0, ha1, H⟩
    rw [Env.five h0 h1 h2 h7 h8]
    refine ifB (fun c0 => ?_) (fun c0 => ?_)
    · obtain ⟨x, q, hrx⟩ := cons_ofS (l := r) (by omega)
      have hrl : r.length = q.length + 1 := by rw [hrx]; rfl
      have hx2 : l.reverse[q.length]? = some x := by
        rw [hll, hrx, List.reverse_append, List.reverse_cons, List.append_assoc, List.getElem?_append_right (by simp)]; simp
      have hql : q.length < l.length := by rw [hll, List.length_append]; omega
      have hxm : x ∈ l := by rw [hll, hrx]; simp
      have hdx := hL x hxm
      have es : sumT (toDS r) = x.1.tl + sumT (toDS q) := by rw [hrx]; exact sumT_cons (x.1, x.2.2) (toDS q)
      have eb : behindD (toDS r) = if (leadD x.1).2 = true then (leadD x.1).1 else (leadD x.1).1 + behindD (toDS q) := by rw [hrx]; rfl
      have lb := lead_bound (hdx.good hok)
      rw [es] at ha1
      rw [eb] at hsum
      refine JoinV.mk ?_
      refine idxCI q.length (by show ((r.length : Nat) : Int) - 1 = _; omega) itC_len (xs := l.reverse) (H.rd 0 rfl) hx2 hql fun b off hc => ?_
      refine loadS (v := .int .i64 x.2.1) (hc 0 _ rfl) ?_
      have hc1 := spec_l2lead (A := A) (As := As) (c := c) (cs := cs) (n := n) (by omega) hok hb.b hdx (by omega) (hx.ext H.below) (hst.ext H.below)
      refine callV ok_l2lead hc1 H fun w H => ?_
      refine ar64 (by omega) (by omega) ?_
      refine ifO (fun c1 => ?_) (fun c1 => ?_)
      · rw [if_pos c1] at hsum
        exact Exists.intro _ (And.intro rfl (And.intro (congrArg (Value.int .i64) hsum) H.none))
      · refine ar64 (by omega) (by omega) ?_
        rw [if_neg (by rw [c1]; decide)] at hsum
        exact Exists.intro q.length (And.intro (by omega) (And.intro rfl (And.intro rfl (And.intro rfl ⟨l1 ++ [x], q, acc + (leadD x.1).1, by rw [hll, hrx, List.append_assoc]; rfl, rfl, rfl, congrArg (Value.int .i64) (by omega), by omega, by omega, by omega, H⟩))))
    · have hr0 : r = [] := List.length_eq_zero_iff.1 (by omega)
      have : acc = behindD (toDS l) := by rw [← hsum, hr0]; show acc = acc + 0; omega
      exact Exists.intro _ (And.intro rfl (And.intro (congrArg (Value.int .i64) this) H.none))
/-! ## the marks of what is flat -/
abbrev rowM (A : Option Addr) (c n : Nat) (xs : List Int) : It := .row (.slice A n c) 3 1 n (xs.map (.int .i64))
theorem storeIM {B : Nat} {W0 w : World} {L : List It} {K : World → Prop} (H : St B W0 w L) (i : Nat) {b n c o : Nat} {xs : List Int} (hi : L[i]? = some (rowM (some ⟨b, 0, none⟩) c n xs)) (q : Nat) (x : Int) (ho : o = q) (hq : q < n) (k : ∀ w', St B W0 w' (L.set i (rowM (some ⟨b, 0, none⟩) c n (xs.set q x))) → K w') : StoreS w ⟨b, o, none⟩ (.int .i64 x) K :=
  storeRowN H i hi q ho (by omega) rfl fun w' H' => k w' (by rw [← List.map_set] at H'; exact H')
abbrev RdGr (w : World) (Ag : Option Addr) (n cg : Nat) (ps : List PieceP) : Prop := Rd w (.slice Ag (n + 1) cg) 1 (n + 1) ((groupsL ps n).map (.int .i64))
theorem St.dr1 {B : Nat} {W0 w : World} {a b : It} {L : List It} (H : St B W0 w (a :: b :: L)) : St B W0 w (a :: L) := H.sel fun q => by simp only [cntL]; omega
theorem ok_l3markFlat : callOK Try.prog 120 = true := by kernel_rfl
theorem spec_l3markFlat {fs : List PieceG} {A As Ag Am : Option Addr} {n c cs cg cm ng B : Nat} {W0 : World} {L : List It} (hl : n ≤ 4294967295)
    (hx : KeepL B W0 L fun w => RdPiece w (.slice A n c) n fs) (hst : KeepL B W0 L fun w => RdSt w As n cs (fs.map PieceG.p)) (hgr : KeepL B W0 L fun w => RdGr w Ag n cg (fs.map PieceG.p)) {d : DocT} {to : Nat} (hL : Loc (fs.map PieceG.p) d to) (hng : cntG (fs.map PieceG.p) ≤ ng) :
    ∀ (L2 : List It), (∀ it ∈ L, it ∈ L2) → ∀ (xs : List Int) (w : World), xs.length = ng → St B W0 w (rowM Am cm ng xs :: L2) → ∀ t : Int, t = to → Calls Try.prog 120 #[.slice A n c, .slice As n cs, .slice Ag (n + 1) cg, .int .i64 t, .slice Am ng cm] w fun e w' => e = .returned (.slice Am ng cm) ∧ St B W0 w' (rowM Am cm ng (markF d xs) :: L2) := by
  induction hL with
  | @leaf to p h a =>
    intro L2 hL2 xs w hxs H t0 e0
    subst e0
    obtain ⟨f, hf, rfl⟩ := piece_of h
    have hx0 := hx _ _ H (fun it h => by simp [hL2 _ h])
    have hnl := hx0.len
    have hto := (List.getElem?_eq_some_iff.1 hf).1
    have hk := (hx0.kids f (List.mem_of_getElem? hf))
    obtain ⟨A0, c0, e0⟩ := PieceG.shape hk
    obtain ⟨textV, kind, text, nn⟩ := f
    dsimp only at e0 hf
    subst e0
    have a : arK kind = 0 := a
    have h6 : kind ≠ 6 ∧ kind ≠ 7 ∧ kind ≠ 8 ∧ kind ≠ 9 := by
      refine ⟨?_, ?_, ?_, ?_⟩ <;> (intro e; rw [e] at a; exact absurd a (by decide))
    refine calls_of_vcV (args := [.slice A n c, .slice As n cs, .slice Ag (n + 1) cg, .int .i64 (to + 1 : Nat), .slice Am ng cm]) Try.func120 rfl (by kernel_rfl) (Nat.le_of_ble_eq_true rfl) ?_
    refine ar64 (by omega) (by omega) ?_
    refine idxCI (cells := PieceG.cells) to (by omega) PieceG.cells_len hx0.row hf (by omega) fun b off hc => ?_
    refine loadS (v := .int .i64 kind) (hc 0 _ rfl) ?_
    refine loadS (v := .slice A0 text.length c0) (hc 1 _ rfl) ?_
    refine loadS (v := .int .i64 nn) (hc 2 _ rfl) ?_
    refine newR (o := .cells #[.int .i64 0, .slice none 0 0, .int .i64 0] _) H fun g0 w H => ?_
    refine storeO H 0 rfl rfl rfl fun w H => ?_
    refine storeO H 0 rfl rfl rfl fun w H => ?_
    refine storeO H 0 rfl rfl rfl fun w H => ?_
    refine JoinV.mk ?_
    refine loadO H 0 rfl rfl ?_
    refine ifB (fun c6 => absurd c6 (by omega)) (fun c6 => ?_)
    refine JoinV.mk ?_
    refine loadO H 0 rfl rfl ?_
    refine ifB (fun c9 => absurd c9 (by omega)) (fun c9 => ?_)
    refine loadO H 0 rfl rfl ?_
    refine callV ok_l2arity (spec_l2arity kind _) H fun w H => ?_
    refine ifB (fun a0 => absurd a0 (by rw [a]; decide)) (fun a0 => ?_)
    have e1 : markF (leafD (PieceG.p ⟨.slice A0 text.length c0, kind, text, nn⟩)) xs = xs := by unfold leafD; (repeat' split) <;> rfl
    rw [e1]
    exact And.intro rfl H.tl
  | @nest to p d h a k ih =>
    intro L2 hL2 xs w hxs H t0 e0
    subst e0
    obtain ⟨f, hf, rfl⟩ := piece_of h
    have hx0 := hx _ _ H (fun it h => by simp [hL2 _ h])
    have hnl := hx0.len
    have hto := (List.getElem?_eq_some_iff.1 hf).1
    have hk := (hx0.kids f (List.mem_of_getElem? hf))
    obtain ⟨A0, c0, e0⟩ := PieceG.shape hk
    obtain ⟨textV, kind, text, nn⟩ := f
    dsimp only at e0 hf
    subst e0
    have a : kind = 7 := a
    refine calls_of_vcV (args := [.slice A n c, .slice As n cs, .slice Ag (n + 1) cg, .int .i64 (to + 1 : Nat), .slice Am ng cm]) Try.func120 rfl (by kernel_rfl) (Nat.le_of_ble_eq_true rfl) ?_
    refine ar64 (by omega) (by omega) ?_
    refine idxCI (cells := PieceG.cells) to (by omega) PieceG.cells_len hx0.row hf (by omega) fun b off hc => ?_
    refine loadS (v := .int .i64 kind) (hc 0 _ rfl) ?_
    refine loadS (v := .slice A0 text.length c0) (hc 1 _ rfl) ?_
    refine loadS (v := .int .i64 nn) (hc 2 _ rfl) ?_
    refine newR (o := .cells #[.int .i64 0, .slice none 0 0, .int .i64 0] _) H fun g0 w H => ?_
    refine storeO H 0 rfl rfl rfl fun w H => ?_
    refine storeO H 0 rfl rfl rfl fun w H => ?_
    refine storeO H 0 rfl rfl rfl fun w H => ?_
    refine JoinV.mk ?_
    refine loadO H 0 rfl rfl ?_
    refine ifB (fun c6 => absurd c6 (by omega)) (fun c6 => ?_)
    refine JoinV.mk ?_
    refine loadO H 0 rfl rfl ?_
    refine ifB (fun c9 => absurd c9 (by omega)) (fun c9 => ?_)
    refine loadO H 0 rfl rfl ?_
    refine callV ok_l2arity (spec_l2arity kind _) H fun w H => ?_
    refine ifB (fun a0 => ?_) (fun a0 => absurd (show (arK kind : Int) > 0 by rw [a]; decide) a0)
    refine ar64 (by omega) (by omega) ?_
    refine CallS.mk ok_l3markFlat ((ih L2 hL2 xs _ hxs H.tl _ (by omega)).mono ?_)
    rintro _ w2 ⟨rfl, H⟩
    exact And.intro rfl H
  | @group to p d h a k ih =>
    intro L2 hL2 xs w hxs H t0 e0
    subst e0
    obtain ⟨f, hf, rfl⟩ := piece_of h
    have hx0 := hx _ _ H (fun it h => by simp [hL2 _ h])
    have hnl := hx0.len
    have hto := (List.getElem?_eq_some_iff.1 hf).1
    have hk := (hx0.kids f (List.mem_of_getElem? hf))
    obtain ⟨A0, c0, e0⟩ := PieceG.shape hk
    obtain ⟨textV, kind, text, nn⟩ := f
    dsimp only at e0 hf
    subst e0
    have a : kind = 8 := a
    refine calls_of_vcV (args := [.slice A n c, .slice As n cs, .slice Ag (n + 1) cg, .int .i64 (to + 1 : Nat), .slice Am ng cm]) Try.func120 rfl (by kernel_rfl) (Nat.le_of_ble_eq_true rfl) ?_
    refine ar64 (by omega) (by omega) ?_
    refine idxCI (cells := PieceG.cells) to (by omega) PieceG.cells_len hx0.row hf (by omega) fun b off hc => ?_
    refine loadS (v := .int .i64 kind) (hc 0 _ rfl) ?_
    refine loadS (v := .slice A0 text.length c0) (hc 1 _ rfl) ?_
    refine loadS (v := .int .i64 nn) (hc 2 _ rfl) ?_
    refine newR (o := .cells #[.int .i64 0, .slice none 0 0, .int .i64 0] _) H fun g0 w H => ?_
    refine storeO H 0 rfl rfl rfl fun w H => ?_
    refine storeO H 0 rfl rfl rfl fun w H => ?_
    refine storeO H 0 rfl rfl rfl fun w H => ?_
    refine JoinV.mk ?_
    refine loadO H 0 rfl rfl ?_
    refine ifB (fun c6 => ?_) (fun c6 => absurd c6 (by omega))
    refine ar64 (by omega) (by omega) ?_
    have hgc : cntG ((fs.map PieceG.p).take to) < ng := by
      have h1 := cntG_snoc h
      rw [if_pos (show (PieceG.p ⟨.slice A0 text.length c0, kind, text, nn⟩).kind = 8 from a)] at h1
      have h2 := cntG_mono (fs.map PieceG.p) (to + 1)
      omega
    refine idxI (hgr _ _ H (fun it h => by simp [hL2 _ h])) (by omega) (by omega) fun b off hc => ?_
    rw [show (((to + 1 : Nat) : Int) - 1).toNat = to by omega, groupsL_get (by omega)] at hc
    rw [show (((to + 1 : Nat) : Int) - 1).toNat = to by omega]
    refine loadS hc ?_
    (refine idxRow H 1 rfl (by omega) (by omega) fun b0 hA _ => ?_; subst hA)
    refine storeIM H 1 rfl (cntG ((fs.map PieceG.p).take to)) 1 (by show 0 + ((cntG ((fs.map PieceG.p).take to) : Nat) : Int).toNat * 1 = _; omega) hgc fun w H => ?_
    refine JoinV.mk ?_
    refine loadO H 0 rfl rfl ?_
    refine ifB (fun c2 => absurd c2 (by omega)) (fun c2 => ?_)
    refine loadO H 0 rfl rfl ?_
    refine callV ok_l2arity (spec_l2arity kind _) H fun w H => ?_
    refine ifB (fun a0 => ?_) (fun a0 => absurd (show (arK kind : Int) > 0 by rw [a]; decide) a0)
    refine ar64 (by omega) (by omega) ?_
    refine CallS.mk ok_l3markFlat ((ih L2 hL2 (xs.set (cntG ((fs.map PieceG.p).take to)) 1) _ (by rw [List.length_set]; exact hxs) H.tl _ (by omega)).mono ?_)
    rintro _ w2 ⟨rfl, H⟩
    exact And.intro rfl H
  | @cat to p l r h a kr hp kl ihr ihl =>
    intro L2 hL2 xs w hxs H t0 e0
    subst e0
    obtain ⟨f, hf, rfl⟩ := piece_of h
    have hx0 := hx _ _ H (fun it h => by simp [hL2 _ h])
    have hnl := hx0.len
    have hto := (List.getElem?_eq_some_iff.1 hf).1
    have hk := (hx0.kids f (List.mem_of_getElem? hf))
    obtain ⟨A0, c0, e0⟩ := PieceG.shape hk
    obtain ⟨textV, kind, text, nn⟩ := f
    dsimp only at e0 hf
    subst e0
    have a : kind = 6 := a
    refine calls_of_vcV (args := [.slice A n c, .slice As n cs, .slice Ag (n + 1) cg, .int .i64 (to + 1 : Nat), .slice Am ng cm]) Try.func120 rfl (by kernel_rfl) (Nat.le_of_ble_eq_true rfl) ?_
    refine ar64 (by omega) (by omega) ?_
    refine idxCI (cells := PieceG.cells) to (by omega) PieceG.cells_len hx0.row hf (by omega) fun b off hc => ?_
    refine loadS (v := .int .i64 kind) (hc 0 _ rfl) ?_
    refine loadS (v := .slice A0 text.length c0) (hc 1 _ rfl) ?_
    refine loadS (v := .int .i64 nn) (hc 2 _ rfl) ?_
    refine newR (o := .cells #[.int .i64 0, .slice none 0 0, .int .i64 0] _) H fun g0 w H => ?_
    refine storeO H 0 rfl rfl rfl fun w H => ?_
    refine storeO H 0 rfl rfl rfl fun w H => ?_
    refine storeO H 0 rfl rfl rfl fun w H => ?_
    refine JoinV.mk ?_
    refine loadO H 0 rfl rfl ?_
    refine ifB (fun c6 => absurd c6 (by omega)) (fun c6 => ?_)
    refine JoinV.mk ?_
    refine loadO H 0 rfl rfl ?_
    refine ifB (fun c9 => ?_) (fun c9 => absurd c9 (by omega))
    refine ar64 (by omega) (by omega) ?_
    refine idxI (hst _ _ H (fun it h => by simp [hL2 _ h])) (by omega) (by omega) fun b off hc => ?_
    refine loadS hc ?_
    refine CallS.mk ok_l3markFlat ((ihl _ (fun it h => List.mem_cons_of_mem _ (hL2 it h)) xs _ hxs H.sw2 _ (by rw [show (((to + 1 : Nat) : Int) - 2).toNat = to - 1 by omega]; exact startsL_get (by omega))).mono ?_)
    rintro _ w2 ⟨rfl, H⟩
    refine loadO H 1 rfl rfl ?_
    refine callV ok_l2arity (spec_l2arity kind _) H fun w H => ?_
    refine ifB (fun a0 => ?_) (fun a0 => absurd (show (arK kind : Int) > 0 by rw [a]; decide) a0)
    refine ar64 (by omega) (by omega) ?_
    refine CallS.mk ok_l3markFlat ((ihr _ (fun it h => List.mem_cons_of_mem _ (hL2 it h)) (markF l xs) _ (by rw [markF_len]; exact hxs) H _ (by omega)).mono ?_)
    rintro _ w2 ⟨rfl, H⟩
    exact And.intro rfl H.dr1
  | @alt to p l r h a kr hp kl ihr ihl =>
    intro L2 hL2 xs w hxs H t0 e0
    subst e0
    obtain ⟨f, hf, rfl⟩ := piece_of h
    have hx0 := hx _ _ H (fun it h => by simp [hL2 _ h])
    have hnl := hx0.len
    have hto := (List.getElem?_eq_some_iff.1 hf).1
    have hk := (hx0.kids f (List.mem_of_getElem? hf))
    obtain ⟨A0, c0, e0⟩ := PieceG.shape hk
    obtain ⟨textV, kind, text, nn⟩ := f
    dsimp only at e0 hf
    subst e0
    have a : kind = 9 := a
    refine calls_of_vcV (args := [.slice A n c, .slice As n cs, .slice Ag (n + 1) cg, .int .i64 (to + 1 : Nat), .slice Am ng cm]) Try.func120 rfl (by kernel_rfl) (Nat.le_of_ble_eq_true rfl) ?_
    refine ar64 (by omega) (by omega) ?_
    refine idxCI (cells := PieceG.cells) to (by omega) PieceG.cells_len hx0.row hf (by omega) fun b off hc => ?_
    refine loadS (v := .int .i64 kind) (hc 0 _ rfl) ?_
    refine loadS (v := .slice A0 text.length c0) (hc 1 _ rfl) ?_
    refine loadS (v := .int .i64 nn) (hc 2 _ rfl) ?_
    refine newR (o := .cells #[.int .i64 0, .slice none 0 0, .int .i64 0] _) H fun g0 w H => ?_
    refine storeO H 0 rfl rfl rfl fun w H => ?_
    refine storeO H 0 rfl rfl rfl fun w H => ?_
    refine storeO H 0 rfl rfl rfl fun w H => ?_
    refine JoinV.mk ?_
    refine loadO H 0 rfl rfl ?_
    refine ifB (fun c6 => absurd c6 (by omega)) (fun c6 => ?_)
    refine JoinV.mk ?_
    refine loadO H 0 rfl rfl ?_
    refine ifB (fun c9 => absurd c9 (by omega)) (fun c9 => ?_)
    refine loadO H 0 rfl rfl ?_
    refine callV ok_l2arity (spec_l2arity kind _) H fun w H => ?_
    refine ifB (fun a0 => ?_) (fun a0 => absurd (show (arK kind : Int) > 0 by rw [a]; decide) a0)
    refine ar64 (by omega) (by omega) ?_
    refine CallS.mk ok_l3markFlat ((ihr L2 hL2 xs _ hxs H.tl _ (by omega)).mono ?_)
    rintro _ w2 ⟨rfl, H⟩
    exact And.intro rfl H
end Go.Proofs.YtfhpgfbakimmhaaE
/- The reference's l3lay. -/
namespace Go.Proofs.YtfhpgfbakimmhaaE
open Go Go.RowKit
set_option linter.unusedVariables false
set_option linter.unusedSimpArgs false
set_option maxRecDepth 100000
set_option maxHeartbeats 8000000

abbrev stkS (A : Option Addr) (c : Nat) (l : List ItS) : It := .row (.slice A l.length c) 171 2 l.length (itV l)
theorem und_items : Try.prog.underlying 172 = some (.slice 171) := by kernel_rfl
theorem inf_item : (Try.prog.info? 171).map (fun i => (i.zero, i.size, i.bytes)) = some (some (.agg #[.int .i64 0, .int .i64 0]), 2, 16) := by kernel_rfl
def chS (use : Bool) (width : Int) (cs : List Int) : ChT := if use = true then chG cs else chW width
def LayRes (W : World) (g : Nat) (r : Option LS) (e : Ending) (w : World) : Prop :=
  match r with
  | some s => ∃ A1 c1 A2 c2, e = .returned (.tuple #[.slice A1 s.out.length c1, .slice A2 g c2, .bool true]) ∧ s.met.length = g ∧ St W.heap.size W w [.rowB (.slice A1 s.out.length c1) s.out, rowM A2 c2 g s.met]
  | none => e = .returned (.tuple #[.slice none 0 0, .slice none 0 0, .bool false]) ∧ St W.heap.size W w []
theorem bsIt1 (a b : Int) (w : World) : (Instr.buildSlice 172 1 #[(0, .agg #[.int .i64 a, .int .i64 b])]).run Try.prog w = .ok (.slice (some ⟨w.heap.size, 0, none⟩) 1 1) (w.alloc (.cells [.int .i64 a, .int .i64 b].toArray 171)) := by kernel_rfl
theorem St.pickS {B : Nat} {W0 w : World} {a b c : It} {L : List It} (H : St B W0 w (a :: b :: c :: L)) : St B W0 w [a, c] := H.sel fun q => by simp only [cntL]; omega
theorem itCell {a b : Int} : ∀ u ∈ [Value.int .i64 a, Value.int .i64 b], u.oneCell' = true := fun u hu => by rcases List.mem_cons.1 hu with rfl | hu; rfl; rcases List.mem_cons.1 hu with rfl | hu; rfl; cases hu
theorem byteOK.join {xs ys : List Int} (h : byteOK xs) (k : byteOK ys) : byteOK (xs ++ ys) := fun x hx => by rcases List.mem_append.1 hx with q | q; exact h x q; exact k x q
theorem Loc.byte {ps : List PieceP} (hb : ∀ p ∈ ps, byteOK p.text) {d : DocT} {to : Nat} (h : Loc ps d to) : ∀ t, flatD d = some t → byteOK t := by
  induction h with
  | @leaf to p h a =>
    intro t ht
    have hp := hb p (List.mem_of_getElem? h)
    unfold leafD at ht
    split at ht
    · cases ht; exact fun x hx => by cases hx
    · split at ht
      · cases ht; exact hp
      · simp only [flatD] at ht
        split at ht
        · cases ht; exact fun x hx => by rw [List.mem_singleton.1 hx]; decide
        · split at ht
          · cases ht; exact fun x hx => by cases hx
          · cases ht
  | nest h a k ih => exact ih
  | group h a k ih => exact ih
  | alt h a kr hp kl ihr ihl => exact ihr
  | @cat to p l r h a kr hp kl ihr ihl =>
    intro t ht
    simp only [flatD] at ht
    cases hl : flatD l with
    | none => rw [hl] at ht; cases ht
    | some x =>
      cases hr : flatD r with
      | none => rw [hl, hr] at ht; cases ht
      | some y => rw [hl, hr] at ht; cases ht; exact (ihl x hl).join (ihr y hr)
theorem St.up5 {B : Nat} {W0 w : World} {a b c d e x : It} {L : List It} (H : St B W0 w (a :: b :: c :: d :: e :: x :: L)) : St B W0 w (x :: a :: b :: c :: d :: e :: L) := H.sel fun q => by simp only [cntL]; omega
theorem St.dn5 {B : Nat} {W0 w : World} {a b c d e x : It} {L : List It} (H : St B W0 w (x :: a :: b :: c :: d :: e :: L)) : St B W0 w (a :: b :: c :: d :: e :: x :: L) := H.sel fun q => by simp only [cntL]; omega
theorem LayRes.no {W w : World} {g : Nat} {r : Option LS} (h : none = r) (H : St W.heap.size W w []) : LayRes W g r (.returned (.tuple #[.slice none 0 0, .slice none 0 0, .bool false])) w := by subst h; exact And.intro rfl H
theorem ok_l3lay : callOK Try.prog 96 = true := by kernel_rfl
theorem spec_l3lay {fs : List PieceG} {A Ac : Option Addr} {n c na ca : Nat} {W : World} {d : DocT} {g : Nat} {use : Bool} {width : Int} {cs : List Int} (hx : RdPiece W (.slice A n c) n fs) (hl : n ≤ 4294967295) (hb0 : DocOK fs) (hv : validD (fs.map PieceG.p) = some (d, g)) (huse : use = true → na = g ∧ cs.length = g ∧ Rd W (.slice Ac na ca) 1 na (cs.map (.int .i64))) {r : Option LS} (hr : layD (chS use width cs) [(d, 0)] ⟨[], 0, List.replicate g 0⟩ = r) :
    Calls Try.prog 96 #[.slice A n c, .int .i64 width, .bool use, .slice Ac na ca] W (LayRes W g r) := by
  have H := St.enter W
  have v := validOf hv
  have hn := hx.len
  have hpl : (fs.map PieceG.p).length = n := by rw [List.length_map, hn]
  refine calls_of_vcV (args := [.slice A n c, .int .i64 width, .bool use, .slice Ac na ca]) Try.func96 rfl (by kernel_rfl) (Nat.le_of_ble_eq_true rfl) ?_
  refine CallS.mk ok_l2starts ((spec_l2starts (hx.ext H.below) (by omega)).mono ?_)
  rintro _ w2 ⟨A1, k1, xs, rfl, hxs, H2⟩
  have H := H.joinS H2 rfl
  have hs := doc_starts (A := A1) (c := k1) hv hn hxs H (by simp)
  have exs := v.starts xs hxs
  rw [hpl] at exs
  refine CallS.mk ok_l3groups ((spec_l3groups (hx.ext H.below) hl).mono ?_)
  rintro _ w3 ⟨A2, k2, rfl, H2⟩
  have H := H.joinS H2 rfl
  have hgl := groupsL_len (fs.map PieceG.p) n
  have hgn : (groupsL (fs.map PieceG.p) n).getD n 0 = g := by rw [groupsL_get (Nat.le_refl n), ← hpl, List.take_length, v.groups]
  have hg2 : g ≤ 40000 := by have h1 := v.groups; have h2 : cntG (fs.map PieceG.p) ≤ _ := List.length_filter_le _ _; have h3 := v.len.2; omega
  refine idxN (H.rd 0 rfl) (by omega) fun b off hc => ?_
  rw [hgn] at hc
  refine loadS hc ?_
  refine mkI H (by omega) fun v0 w H => ?_
  refine RunS.mk ⟨.agg #[.int .i64 (↑n), .int .i64 0], w, by kernel_rfl, ?_⟩
  obtain ⟨Am, cm, e0⟩ := H.mk1 0 rfl
  subst e0
  have elen : (List.replicate g (0 : Int)).length = g := List.length_replicate
  refine litRB (e := 171) (sz := 2) (n := 1) H rfl (by decide) (bsIt1 n 0 _) fun A7 c7 w hB H => ?_
  have H1 : St W.heap.size W w (.row (.slice A7 1 c7) 171 2 1 [.int .i64 n, .int .i64 0] :: .row (.slice Am (List.replicate g (0 : Int)).length cm) 3 1 (List.replicate g (0 : Int)).length ((List.replicate g (0 : Int)).map (.int .i64)) :: .rowI (.slice A2 (groupsL (fs.map PieceG.p) n).length k2) (groupsL (fs.map PieceG.p) n) :: .rowI (.slice A1 xs.length k1) xs :: []) := H
  rw [elen] at H1
  have H := (St.rowNil (e := 5) (sz := 1) H1)
  have hstK : KeepL W.heap.size W [.rowI (.slice A2 (groupsL (fs.map PieceG.p) n).length k2) (groupsL (fs.map PieceG.p) n), .rowI (.slice A1 xs.length k1) xs] fun w => RdSt w A1 n k1 (fs.map PieceG.p) := fun w M H h => (doc_starts (A := A1) (c := k1) hv hn hxs H (h _ (by simp))).2
  have hgrK : KeepL W.heap.size W [.rowI (.slice A2 (groupsL (fs.map PieceG.p) n).length k2) (groupsL (fs.map PieceG.p) n), .rowI (.slice A1 xs.length k1) xs] fun w => RdGr w A2 n k2 (fs.map PieceG.p) := fun w M H h => by
    have q := H.rdm (h _ List.mem_cons_self) rfl
    rw [hgl] at q; exact q
  have hxK : KeepL W.heap.size W [.rowI (.slice A2 (groupsL (fs.map PieceG.p) n).length k2) (groupsL (fs.map PieceG.p) n), .rowI (.slice A1 xs.length k1) xs] fun w => RdPiece w (.slice A n c) n fs := fun w M H h => hx.ext H.below
  obtain ⟨Lb, hLb⟩ : ∃ Lb, [It.rowI (.slice A2 (groupsL (fs.map PieceG.p) n).length k2) (groupsL (fs.map PieceG.p) n), .rowI (.slice A1 xs.length k1) xs] = Lb := ⟨_, rfl⟩
  rw [hLb] at hstK hgrK hxK H
  have hbL : LayB d.tl d.size [(d, 0)] ⟨[], 0, List.replicate g 0⟩ := by
    have e1 : sumT [(d, (0 : Int))] = d.tl := by simp [sumT]
    have e2 : sumS [(d, (0 : Int))] = d.size := by simp [sumS]
    refine ⟨Int.le_refl _, by rw [e1]; simp only []; omega, by rw [e1]; exact Nat.le_refl _, by rw [e1, e2]; simp only [List.length_nil]; omega, fun x hx => ?_⟩
    rw [List.mem_singleton.1 hx]
    exact ⟨v.good, Int.le_refl _, by have := v.nest; simp only []; omega, by simp only [List.length_replicate]; exact v.gr⟩
  have hbp : ∀ p ∈ fs.map PieceG.p, byteOK p.text := fun p hp => by obtain ⟨f, hf, rfl⟩ := List.mem_map.1 hp; exact (hb0.b f hf).1
  have hT := v.tl
  have hS := v.size
  have exl : xs.length = n := by rw [exs, startsL_len]
  rw [exl, hgl, elen]
  clear hxs hs H1 H2 exs exl hgl hgn hLb
  refine loopV (by kernel_rfl) (fun m e w => e 0 = .slice A n c ∧ e 1 = .int .i64 width ∧ e 2 = .bool use ∧ e 3 = .slice Ac na ca ∧ e 12 = .slice A1 n k1 ∧ e 13 = .slice A2 (n + 1) k2 ∧ ∃ (l : List ItS) (s : LS) (Ao Ar : Option Addr) (co cr : Nat), e 11 = .slice Ao s.out.length co ∧ e 14 = .slice Am g cm ∧ e 15 = .int .i64 s.col ∧ e 16 = .slice Ar l.length cr ∧ m = sumS (toDS l) ∧ layD (chS use width cs) (toDS l) s = r ∧ (∀ x ∈ l, Loc (fs.map PieceG.p) x.1 x.2.1) ∧ s.met.length = g ∧ LayB d.tl d.size (toDS l) s ∧ St W.heap.size W w (.rowB (.slice Ao s.out.length co) s.out :: stkS Ar cr l :: rowM Am cm g s.met :: Lb)) (sumS (toDS [(d, n, 0)])) ?_ ?_
  · exact And.intro rfl (And.intro rfl (And.intro rfl (And.intro rfl (And.intro rfl (And.intro rfl ⟨[(d, n, 0)], ⟨[], 0, List.replicate g 0⟩, none, A7, 0, c7, rfl, rfl, rfl, rfl, rfl, hr, fun x hx => by rw [List.mem_singleton.1 hx, ← hpl]; exact v.loc, elen, hbL, H⟩)))))
  · clear hr hbL H
    rintro m e w ⟨h0, h1, h2, h3, h12, h13, l, s, Ao, Ar, co, cr, h11, h14, h15, h16, hm, hr, hL, hmet, hb, H⟩
    rw [Env.ten h0 h1 h2 h3 h12 h13 h11 h14 h15 h16]
    cases l with
    | nil =>
      have hr2 : some s = r := hr
      clear hr
      subst hr2
      refine ifB (fun c0 => absurd c0 (by decide)) (fun c0 => ?_)
      exact ⟨Ao, co, Am, cm, rfl, hmet, H.pickS⟩
    | cons x l =>
      obtain ⟨D, to, ind⟩ := x
      have hLx : Loc (fs.map PieceG.p) D to := hL (D, to, ind) (by simp)
      have hL2 : ∀ x ∈ l, Loc (fs.map PieceG.p) x.1 x.2.1 := fun x hx => hL x (by simp [hx])
      have hll : l.length ≤ 140000 := by have h1 := len_sumTS ((D, to, ind) :: l); have h2 := hb.tl; simp only [List.length_cons] at h1; omega
      have hivl := itV_len l
      have H0 : St W.heap.size W w (.rowB (.slice Ao s.out.length co) s.out :: .row (.slice Ar (l.length + 1) cr) 171 2 (l.length + 1) (itV l ++ [.int .i64 to, .int .i64 ind]) :: rowM Am cm g s.met :: Lb) := by rw [← itV_cons (D, to, ind)]; exact H
      have hob : s.out.length ≤ 200000000 := by have := hb.out; omega
      have hgd := hb.good (D, ind) (by simp [toDS])
      have hi0 : 0 ≤ ind := hgd.2.1
      have hind4 : ind ≤ 4000 := by have h1 := hgd.2.2.1; have h2 := hgd.1.nn.nonneg; simp only at h1 h2; omega
      have hpos : to ≤ n := by have := hLx.pos; omega
      rw [show ((D, to, ind) :: l).length = l.length + 1 from rfl]
      cases hLx with
      | @leaf to p h a =>
        obtain ⟨f, hf, rfl⟩ := piece_of h
        have hto := (List.getElem?_eq_some_iff.1 hf).1
        have hk := (hx.kids f (List.mem_of_getElem? hf))
        have hbf := hb0.b f (List.mem_of_getElem? hf)
        obtain ⟨A0, c0', e0⟩ := PieceG.shape hk
        obtain ⟨textV, kind, text, nn⟩ := f
        dsimp only at e0 hf hbf
        subst e0
        have hk2 : RdB W (.slice A0 text.length c0') text := hk
        have H := H0
        have a : arK kind = 0 := a
        have hkd : 0 ≤ kind ∧ kind ≤ 9 := (v.ok _ (List.mem_map_of_mem (List.mem_of_getElem? hf))).kind
        have h6 : kind ≠ 6 ∧ kind ≠ 7 ∧ kind ≠ 8 ∧ kind ≠ 9 := by
          refine ⟨?_, ?_, ?_, ?_⟩ <;> (intro e; rw [e] at a; exact absurd a (by decide))
        have hD : leafD (PieceG.p ⟨.slice A0 text.length c0', kind, text, nn⟩) = if kind = 0 then .nil else if kind = 1 then .text text else .line kind := rfl
        rw [hD] at hb hr hm
        have hlt : sumS (toDS l) < m := by rw [hm]; have := size_pos (if kind = 0 then DocT.nil else if kind = 1 then .text text else .line kind); simp only [toDS, List.map_cons, sumS_cons]; omega
        refine ifB (fun c0 => ?_) (fun c0 => absurd (show (((l.length + 1 : Nat)) : Int) > 0 by omega) c0)
        refine ar64 (by show _ ≤ ((l.length + 1 : Nat) : Int) - 1; omega) (by show ((l.length + 1 : Nat) : Int) - 1 ≤ _; omega) ?_
        refine idxR (H.rd 1 rfl) (by show 0 ≤ ((l.length + 1 : Nat) : Int) - 1; omega) (by show ((l.length + 1 : Nat) : Int) - 1 < _; omega) fun b off hA hcc => ?_
        have hc0 : _ = some (Value.int .i64 ((to + 1 : Nat) : Int)) := (hcc 0 (by decide)).trans (by rw [show (((l.length + 1 : Nat)) : Int) - 1 = (l.length : Int) by omega, Int.toNat_natCast, List.getElem?_append_right (by omega), show l.length * 2 + 0 - (itV l).length = 0 by omega]; rfl)
        have hc1 : _ = some (Value.int .i64 ind) := (hcc 1 (by decide)).trans (by rw [show (((l.length + 1 : Nat)) : Int) - 1 = (l.length : Int) by omega, Int.toNat_natCast, List.getElem?_append_right (by omega), show l.length * 2 + 1 - (itV l).length = 1 by omega]; rfl)
        refine loadS hc0 ?_
        refine loadS hc1 ?_
        refine newR (o := .cells #[.int .i64 0, .int .i64 0] _) H fun g7 w H => ?_
        refine storeO H 0 rfl rfl rfl fun w H => ?_
        refine storeO H 0 rfl rfl rfl fun w H => ?_
        refine ar64 (by show _ ≤ ((l.length + 1 : Nat) : Int) - 1; omega) (by show ((l.length + 1 : Nat) : Int) - 1 ≤ _; omega) ?_
        refine cutRow (sz := 2) (h := l.length) H 2 rfl rfl (by show ((l.length + 1 : Nat) : Int) - 1 = _; omega) (by omega) fun H => ?_
        have H3 : St W.heap.size W _ (.obj g7 (.cells #[.int .i64 ((to + 1 : Nat) : Int), .int .i64 ind] 171) :: .rowB (.slice Ao s.out.length co) s.out :: .row _ 171 2 l.length ((itV l ++ [Value.int .i64 ((to + 1 : Nat) : Int), Value.int .i64 ind]).take (l.length * 2)) :: rowM Am cm g s.met :: Lb) := H
        rw [show (itV l ++ [Value.int .i64 ((to + 1 : Nat) : Int), Value.int .i64 ind]).take (l.length * 2) = itV l by rw [← hivl, List.take_left']; rfl] at H3
        have H := H3
        refine loadO H 0 rfl rfl ?_
        refine ar64 (by omega) (by omega) ?_
        refine idxCI (cells := PieceG.cells) to (by show ((to + 1 : Nat) : Int) - 1 = _; omega) PieceG.cells_len (hx.ext H.below).row hf (by omega) fun b off hc => ?_
        refine loadS (v := .int .i64 kind) (hc 0 _ rfl) ?_
        refine loadS (v := .slice A0 text.length c0') (hc 1 _ rfl) ?_
        refine loadS (v := .int .i64 nn) (hc 2 _ rfl) ?_
        refine newR (o := .cells #[.int .i64 0, .slice none 0 0, .int .i64 0] _) H fun g8 w H => ?_
        refine storeO H 0 rfl rfl rfl fun w H => ?_
        refine storeO H 0 rfl rfl rfl fun w H => ?_
        refine storeO H 0 rfl rfl rfl fun w H => ?_
        have H4 : St W.heap.size W _ (.obj g8 (.cells #[.int .i64 kind, .slice A0 text.length c0', .int .i64 nn] 96) :: .obj g7 (.cells #[.int .i64 ((to + 1 : Nat) : Int), .int .i64 ind] 171) :: .rowB (.slice Ao s.out.length co) s.out :: .row _ 171 2 l.length (itV l) :: rowM Am cm g s.met :: Lb) := H
        have H := H4
        have tlen : text.length ≤ 200000 := by have := (v.ok _ (List.mem_map_of_mem (List.mem_of_getElem? hf))); have h1 : kind ≠ 1 → text.length = 0 := this.empty; by_cases hk1 : kind = 1; (rw [if_neg (by omega), if_pos hk1] at hb; have h2 := hb.tl; simp only [toDS, List.map_cons, sumT_cons, DocT.tl] at h2; omega); (rw [h1 hk1]; omega)
        refine loadO H 0 rfl rfl ?_
        refine ifB (fun c1 => ?_) (fun c1 => ?_)
        · refine loadO H 0 rfl rfl ?_
          rw [if_neg (by omega), if_pos c1] at hb hr
          have hb2 := hb.text
          have hr2 := lay_text.symm.trans hr
          have hcol0 : 0 ≤ s.col + tw text := hb2.col0
          have hcol1 : s.col + tw text + ((sumT (toDS l) : Nat) : Int) ≤ (d.tl : Int) + 4000 := hb2.col
          have htw : tw text = cntP (ptsF text text.length 0) 0 := rfl
          refine appBS (xs := s.out) (ys := text) H 2 rfl (hk2.ext H.below) (by omega) fun A6 k6 w H => ?_
          refine loadO H 0 rfl rfl ?_
          refine callV ok_spec_TextWidth (spec_TextWidth hbf.1 hbf.2 (hk2.ext H.below)) H fun w H => ?_
          refine ar64 (by omega) (by omega) ?_
          have H := H.tl.tl
          exact Exists.intro (sumS (toDS l)) (And.intro hlt (And.intro rfl (And.intro rfl (And.intro rfl (And.intro rfl (And.intro rfl (And.intro rfl ⟨l, ⟨s.out ++ text, s.col + tw text, s.met⟩, A6, Ar, k6, cr, rfl, rfl, rfl, rfl, rfl, hr2, hL2, hmet, hb2, H⟩)))))))
        · refine loadO H 0 rfl rfl ?_
          refine ifB (fun c4 => ?_) (fun c4 => ?_)
          · refine litBS (xs := [10]) H (by simp) (by kernel_rfl) fun A5 k5 w H => ?_
            refine appBS H 3 rfl (H.rd 0 rfl) (by first | omega | (simp; omega)) fun A6 k6 w H => ?_
            rw [if_neg (by omega), if_neg (by omega)] at hb hr
            have hb2 := hb.line
            have hr2 := lay_line.symm.trans hr
            rw [if_pos c4] at hb2 hr2
            have H := H.tl.tl.tl
            exact Exists.intro (sumS (toDS l)) (And.intro hlt (And.intro rfl (And.intro rfl (And.intro rfl (And.intro rfl (And.intro rfl (And.intro rfl ⟨l, ⟨s.out ++ [10], 0, s.met⟩, A6, Ar, k6, cr, rfl, rfl, rfl, rfl, rfl, hr2, hL2, hmet, hb2, H⟩)))))))
          · refine RegV.mk ?_
            refine loadO H 0 rfl rfl ?_
            refine gF (fun c9 => ?_) (fun c9 => ?_)
            · refine loadO H 0 rfl rfl ?_
              refine gF (fun c11 => ?_) (fun c11 => ?_)
              · refine loadO H 0 rfl rfl ?_
                refine ifB (fun c13 => ?_) (fun c13 => ?_)
                · refine loadO H 1 rfl rfl ?_
                  rw [if_neg (by omega), if_neg (by omega)] at hb hr
                  have hb2 := hb.line
                  have hr2 := lay_line.symm.trans hr
                  rw [if_neg (by omega)] at hb2 hr2
                  refine CallS.mk ok_l3newLine ((spec_l3newLine hi0 (by omega)).mono ?_)
                  rintro _ w2 ⟨A9, c9, rfl, H9⟩
                  have H := H.joinS H9 rfl
                  have hsl : ([10] ++ spaces ind).length ≤ 5000 := by have := hind4; simp [spaces]; omega
                  refine appBS (xs := s.out) (ys := [10] ++ spaces ind) H 3 rfl (H.rd 0 rfl) (by omega) fun A6 k6 w H => ?_
                  refine loadO H 2 rfl rfl ?_
                  have H := H.tl.tl.tl
                  exact Exists.intro (sumS (toDS l)) (And.intro hlt (And.intro rfl (And.intro rfl (And.intro rfl (And.intro rfl (And.intro rfl (And.intro rfl ⟨l, ⟨s.out ++ ([10] ++ spaces ind), ind, s.met⟩, A6, Ar, k6, cr, rfl, rfl, rfl, rfl, rfl, (by rw [← List.append_assoc]; exact hr2), hL2, hmet, (by rw [← List.append_assoc]; exact hb2), H⟩)))))))
                · refine loadO H 0 rfl rfl ?_
                  refine ifB (fun c16 => absurd c16 (by omega)) (fun c16 => ?_)
                  refine RegV.mk ?_
                  refine loadO H 0 rfl rfl ?_
                  refine gF (fun c19 => ?_) (fun c19 => absurd c19 (by omega))
                  refine loadO H 0 rfl rfl ?_
                  refine ifB (fun c21 => absurd c21 (by omega)) (fun c21 => ?_)
                  refine loadO H 0 rfl rfl ?_
                  refine ifB (fun c23 => absurd c23 (by omega)) (fun c23 => ?_)
                  have k0 : kind = 0 := by omega
                  rw [if_pos k0] at hb hr
                  have hb2 := hb.nil
                  have hr2 := lay_nil.symm.trans hr
                  have H := H.tl.tl
                  exact Exists.intro (sumS (toDS l)) (And.intro hlt (And.intro rfl (And.intro rfl (And.intro rfl (And.intro rfl (And.intro rfl (And.intro rfl ⟨l, s, Ao, Ar, co, cr, rfl, rfl, rfl, rfl, rfl, hr2, hL2, hmet, hb2, H⟩)))))))
              · refine ifT ?_
                refine loadO H 1 rfl rfl ?_
                rw [if_neg (by omega), if_neg (by omega)] at hb hr
                have hb2 := hb.line
                have hr2 := lay_line.symm.trans hr
                rw [if_neg (by omega)] at hb2 hr2
                refine CallS.mk ok_l3newLine ((spec_l3newLine hi0 (by omega)).mono ?_)
                rintro _ w2 ⟨A9, c9, rfl, H9⟩
                have H := H.joinS H9 rfl
                have hsl : ([10] ++ spaces ind).length ≤ 5000 := by have := hind4; simp [spaces]; omega
                refine appBS (xs := s.out) (ys := [10] ++ spaces ind) H 3 rfl (H.rd 0 rfl) (by omega) fun A6 k6 w H => ?_
                refine loadO H 2 rfl rfl ?_
                have H := H.tl.tl.tl
                exact Exists.intro (sumS (toDS l)) (And.intro hlt (And.intro rfl (And.intro rfl (And.intro rfl (And.intro rfl (And.intro rfl (And.intro rfl ⟨l, ⟨s.out ++ ([10] ++ spaces ind), ind, s.met⟩, A6, Ar, k6, cr, rfl, rfl, rfl, rfl, rfl, (by rw [← List.append_assoc]; exact hr2), hL2, hmet, (by rw [← List.append_assoc]; exact hb2), H⟩)))))))
            · refine gNf ?_
              refine ifT ?_
              refine loadO H 1 rfl rfl ?_
              rw [if_neg (by omega), if_neg (by omega)] at hb hr
              have hb2 := hb.line
              have hr2 := lay_line.symm.trans hr
              rw [if_neg (by omega)] at hb2 hr2
              refine CallS.mk ok_l3newLine ((spec_l3newLine hi0 (by omega)).mono ?_)
              rintro _ w2 ⟨A9, c9, rfl, H9⟩
              have H := H.joinS H9 rfl
              have hsl : ([10] ++ spaces ind).length ≤ 5000 := by have := hind4; simp [spaces]; omega
              refine appBS (xs := s.out) (ys := [10] ++ spaces ind) H 3 rfl (H.rd 0 rfl) (by omega) fun A6 k6 w H => ?_
              refine loadO H 2 rfl rfl ?_
              have H := H.tl.tl.tl
              exact Exists.intro (sumS (toDS l)) (And.intro hlt (And.intro rfl (And.intro rfl (And.intro rfl (And.intro rfl (And.intro rfl (And.intro rfl ⟨l, ⟨s.out ++ ([10] ++ spaces ind), ind, s.met⟩, A6, Ar, k6, cr, rfl, rfl, rfl, rfl, rfl, (by rw [← List.append_assoc]; exact hr2), hL2, hmet, (by rw [← List.append_assoc]; exact hb2), H⟩)))))))
      | @nest to p D h a k =>
        obtain ⟨f, hf, rfl⟩ := piece_of h
        have hto := (List.getElem?_eq_some_iff.1 hf).1
        have hk := (hx.kids f (List.mem_of_getElem? hf))
        have hbf := hb0.b f (List.mem_of_getElem? hf)
        obtain ⟨A0, c0', e0⟩ := PieceG.shape hk
        obtain ⟨textV, kind, text, nn⟩ := f
        dsimp only at e0 hf hbf
        subst e0
        have hk2 : RdB W (.slice A0 text.length c0') text := hk
        have H := H0
        have a : kind = 7 := a
        have hb2 : LayB d.tl d.size (toDS ((D, to, ind + nn) :: l)) s := hb.nest
        have hr2 : layD (chS use width cs) (toDS ((D, to, ind + nn) :: l)) s = r := lay_nest.symm.trans hr
        have hlt : sumS (toDS ((D, to, ind + nn) :: l)) < m := by rw [hm]; simp only [toDS, List.map_cons, sumS_cons, DocT.size] <;> omega
        have hb3 := hb2.good (D, ind + nn) (by simp [toDS])
        have hb5 : 0 ≤ nn := hgd.1.1
        have hb6 : ind + nn + D.nestD ≤ 4000 := hb3.2.2.1
        have hb7 := hb3.1.nn.nonneg
        have hL3 : ∀ z ∈ ((D, to, ind + nn) :: l), Loc (fs.map PieceG.p) z.1 z.2.1 := by intro z hz; rcases List.mem_cons.1 hz with rfl | hz; exact k; exact hL2 z hz
        refine ifB (fun c0 => ?_) (fun c0 => absurd (show (((l.length + 1 : Nat)) : Int) > 0 by omega) c0)
        refine ar64 (by show _ ≤ ((l.length + 1 : Nat) : Int) - 1; omega) (by show ((l.length + 1 : Nat) : Int) - 1 ≤ _; omega) ?_
        refine idxR (H.rd 1 rfl) (by show 0 ≤ ((l.length + 1 : Nat) : Int) - 1; omega) (by show ((l.length + 1 : Nat) : Int) - 1 < _; omega) fun b off hA hcc => ?_
        have hc0 : _ = some (Value.int .i64 ((to + 1 : Nat) : Int)) := (hcc 0 (by decide)).trans (by rw [show (((l.length + 1 : Nat)) : Int) - 1 = (l.length : Int) by omega, Int.toNat_natCast, List.getElem?_append_right (by omega), show l.length * 2 + 0 - (itV l).length = 0 by omega]; rfl)
        have hc1 : _ = some (Value.int .i64 ind) := (hcc 1 (by decide)).trans (by rw [show (((l.length + 1 : Nat)) : Int) - 1 = (l.length : Int) by omega, Int.toNat_natCast, List.getElem?_append_right (by omega), show l.length * 2 + 1 - (itV l).length = 1 by omega]; rfl)
        refine loadS hc0 ?_
        refine loadS hc1 ?_
        refine newR (o := .cells #[.int .i64 0, .int .i64 0] _) H fun g7 w H => ?_
        refine storeO H 0 rfl rfl rfl fun w H => ?_
        refine storeO H 0 rfl rfl rfl fun w H => ?_
        refine ar64 (by show _ ≤ ((l.length + 1 : Nat) : Int) - 1; omega) (by show ((l.length + 1 : Nat) : Int) - 1 ≤ _; omega) ?_
        refine cutRow (sz := 2) (h := l.length) H 2 rfl rfl (by show ((l.length + 1 : Nat) : Int) - 1 = _; omega) (by omega) fun H => ?_
        have H3 : St W.heap.size W _ (.obj g7 (.cells #[.int .i64 ((to + 1 : Nat) : Int), .int .i64 ind] 171) :: .rowB (.slice Ao s.out.length co) s.out :: .row _ 171 2 l.length ((itV l ++ [Value.int .i64 ((to + 1 : Nat) : Int), Value.int .i64 ind]).take (l.length * 2)) :: rowM Am cm g s.met :: Lb) := H
        rw [show (itV l ++ [Value.int .i64 ((to + 1 : Nat) : Int), Value.int .i64 ind]).take (l.length * 2) = itV l by rw [← hivl, List.take_left']; rfl] at H3
        have H := H3
        refine loadO H 0 rfl rfl ?_
        refine ar64 (by omega) (by omega) ?_
        refine idxCI (cells := PieceG.cells) to (by show ((to + 1 : Nat) : Int) - 1 = _; omega) PieceG.cells_len (hx.ext H.below).row hf (by omega) fun b off hc => ?_
        refine loadS (v := .int .i64 kind) (hc 0 _ rfl) ?_
        refine loadS (v := .slice A0 text.length c0') (hc 1 _ rfl) ?_
        refine loadS (v := .int .i64 nn) (hc 2 _ rfl) ?_
        refine newR (o := .cells #[.int .i64 0, .slice none 0 0, .int .i64 0] _) H fun g8 w H => ?_
        refine storeO H 0 rfl rfl rfl fun w H => ?_
        refine storeO H 0 rfl rfl rfl fun w H => ?_
        refine storeO H 0 rfl rfl rfl fun w H => ?_
        have H4 : St W.heap.size W _ (.obj g8 (.cells #[.int .i64 kind, .slice A0 text.length c0', .int .i64 nn] 96) :: .obj g7 (.cells #[.int .i64 ((to + 1 : Nat) : Int), .int .i64 ind] 171) :: .rowB (.slice Ao s.out.length co) s.out :: .row _ 171 2 l.length (itV l) :: rowM Am cm g s.met :: Lb) := H
        have H := H4
        refine loadO H 0 rfl rfl ?_
        refine ifB (fun c1 => absurd c1 (by omega)) (fun c1 => ?_)
        refine loadO H 0 rfl rfl ?_
        refine ifB (fun c3 => absurd c3 (by omega)) (fun c3 => ?_)
        refine RegV.mk ?_
        refine loadO H 0 rfl rfl ?_
        refine gF (fun c6 => ?_) (fun c6 => absurd c6 (by omega))
        refine loadO H 0 rfl rfl ?_
        refine gF (fun c8 => ?_) (fun c8 => absurd c8 (by omega))
        refine loadO H 0 rfl rfl ?_
        refine ifB (fun c10 => absurd c10 (by omega)) (fun c10 => ?_)
        refine loadO H 0 rfl rfl ?_
        refine ifB (fun c12 => ?_) (fun c12 => absurd c12 (by omega))
        refine loadO H 1 rfl rfl ?_
        refine ar64 (by omega) (by omega) ?_
        refine loadO H 1 rfl rfl ?_
        refine loadO H 0 rfl rfl ?_
        refine ar64 (by omega) (by omega) ?_
        refine RunS.mk ⟨.agg #[.int .i64 (↑(to + 1) - 1), .int .i64 (ind + nn)], w, by kernel_rfl, ?_⟩
        refine litRB (e := 171) (sz := 2) (n := 1) H rfl (by decide) (bsIt1 (((to + 1 : Nat) : Int) - 1) (ind + nn) _) fun A7 c7 w hB H => ?_
        refine appRS und_items inf_item rfl (by decide) (by decide) H 4 rfl (H.rd 0 rfl) itCell (by omega) fun A8 c8 w H => ?_
        have H := H.tl.tl.tl
        have H5 : St W.heap.size W w (.rowB (.slice Ao s.out.length co) s.out :: .row (.slice A8 (l.length + 1) c8) 171 2 (l.length + 1) (itV l ++ [.int .i64 (((to + 1 : Nat) : Int) - 1), .int .i64 (ind + nn)]) :: rowM Am cm g s.met :: Lb) := H
        rw [show (((to + 1 : Nat) : Int)) - 1 = (to : Int) by omega, ← itV_cons (D, to, ind + nn) l] at H5
        exact Exists.intro (sumS (toDS ((D, to, ind + nn) :: l))) (And.intro hlt (And.intro rfl (And.intro rfl (And.intro rfl (And.intro rfl (And.intro rfl (And.intro rfl ⟨((D, to, ind + nn) :: l), s, Ao, A8, co, c8, rfl, rfl, rfl, rfl, rfl, hr2, hL3, hmet, hb2, H5⟩)))))))
      | @group to p D h a k =>
        obtain ⟨f, hf, rfl⟩ := piece_of h
        have hto := (List.getElem?_eq_some_iff.1 hf).1
        have hk := (hx.kids f (List.mem_of_getElem? hf))
        have hbf := hb0.b f (List.mem_of_getElem? hf)
        obtain ⟨A0, c0', e0⟩ := PieceG.shape hk
        obtain ⟨textV, kind, text, nn⟩ := f
        dsimp only at e0 hf hbf
        subst e0
        have hk2 : RdB W (.slice A0 text.length c0') text := hk
        have H := H0
        have a : kind = 8 := a
        have hgood : GoodD D := hgd.1
        have hfwb := fw_bound hgood
        have hgrD : GrD g (.group D (cntG ((fs.map PieceG.p).take to))) := hmet ▸ hgd.2.2.2
        have htl : D.tl + 1 + sumT (toDS l) ≤ d.tl := by have := hb.tl; simp only [toDS, List.map_cons, sumT_cons, DocT.tl] at this; exact this
        have hgr2 := lay_group.symm.trans hr
        have hsum0 : (l.map fun x : ItS => (x.1, x.2.2)) = toDS l := rfl
        rw [hsum0] at hgr2
        have hbB := hb.broken
        have hmetB : (s.met.set (cntG ((fs.map PieceG.p).take to)) 2).length = g := by rw [List.length_set]; exact hmet
        have hmetF : (markF (.group D (cntG ((fs.map PieceG.p).take to))) s.met).length = g := by rw [markF_len]; exact hmet
        have hLB : ∀ z ∈ ((D, to, ind) :: l), Loc (fs.map PieceG.p) z.1 z.2.1 := by intro z hz; rcases List.mem_cons.1 hz with rfl | hz; exact k; exact hL2 z hz
        have hltB : sumS (toDS ((D, to, ind) :: l)) < m := by rw [hm]; simp only [toDS, List.map_cons, sumS_cons, DocT.size] <;> omega
        have hltF : sumS (toDS l) < m := by rw [hm]; simp only [toDS, List.map_cons, sumS_cons, DocT.size] <;> omega
        obtain ⟨x, hxk⟩ : ∃ x, cs.getD (cntG ((fs.map PieceG.p).take to)) 0 = x := ⟨_, rfl⟩
        have hchT : use = true → chS use width cs D (cntG ((fs.map PieceG.p).take to)) s (toDS l) = if x = 1 then (if 0 ≤ fwD D then some true else none) else if x = 2 then some false else none := fun c3 => by unfold chS; rw [if_pos c3]; unfold chG; rw [hxk]
        have hchN : use = false → chS use width cs D (cntG ((fs.map PieceG.p).take to)) s (toDS l) = chW width D (cntG ((fs.map PieceG.p).take to)) s (toDS l) := fun c3 => by unfold chS; rw [if_neg (by rw [c3]; decide)]
        refine ifB (fun c0 => ?_) (fun c0 => absurd (show (((l.length + 1 : Nat)) : Int) > 0 by omega) c0)
        refine ar64 (by show _ ≤ ((l.length + 1 : Nat) : Int) - 1; omega) (by show ((l.length + 1 : Nat) : Int) - 1 ≤ _; omega) ?_
        refine idxR (H.rd 1 rfl) (by show 0 ≤ ((l.length + 1 : Nat) : Int) - 1; omega) (by show ((l.length + 1 : Nat) : Int) - 1 < _; omega) fun b off hA hcc => ?_
        have hc0 : _ = some (Value.int .i64 ((to + 1 : Nat) : Int)) := (hcc 0 (by decide)).trans (by rw [show (((l.length + 1 : Nat)) : Int) - 1 = (l.length : Int) by omega, Int.toNat_natCast, List.getElem?_append_right (by omega), show l.length * 2 + 0 - (itV l).length = 0 by omega]; rfl)
        have hc1 : _ = some (Value.int .i64 ind) := (hcc 1 (by decide)).trans (by rw [show (((l.length + 1 : Nat)) : Int) - 1 = (l.length : Int) by omega, Int.toNat_natCast, List.getElem?_append_right (by omega), show l.length * 2 + 1 - (itV l).length = 1 by omega]; rfl)
        refine loadS hc0 ?_
        refine loadS hc1 ?_
        refine newR (o := .cells #[.int .i64 0, .int .i64 0] _) H fun g7 w H => ?_
        refine storeO H 0 rfl rfl rfl fun w H => ?_
        refine storeO H 0 rfl rfl rfl fun w H => ?_
        refine ar64 (by show _ ≤ ((l.length + 1 : Nat) : Int) - 1; omega) (by show ((l.length + 1 : Nat) : Int) - 1 ≤ _; omega) ?_
        refine cutRow (sz := 2) (h := l.length) H 2 rfl rfl (by show ((l.length + 1 : Nat) : Int) - 1 = _; omega) (by omega) fun H => ?_
        have H3 : St W.heap.size W _ (.obj g7 (.cells #[.int .i64 ((to + 1 : Nat) : Int), .int .i64 ind] 171) :: .rowB (.slice Ao s.out.length co) s.out :: .row _ 171 2 l.length ((itV l ++ [Value.int .i64 ((to + 1 : Nat) : Int), Value.int .i64 ind]).take (l.length * 2)) :: rowM Am cm g s.met :: Lb) := H
        rw [show (itV l ++ [Value.int .i64 ((to + 1 : Nat) : Int), Value.int .i64 ind]).take (l.length * 2) = itV l by rw [← hivl, List.take_left']; rfl] at H3
        have H := H3
        refine loadO H 0 rfl rfl ?_
        refine ar64 (by omega) (by omega) ?_
        refine idxCI (cells := PieceG.cells) to (by show ((to + 1 : Nat) : Int) - 1 = _; omega) PieceG.cells_len (hx.ext H.below).row hf (by omega) fun b off hc => ?_
        refine loadS (v := .int .i64 kind) (hc 0 _ rfl) ?_
        refine loadS (v := .slice A0 text.length c0') (hc 1 _ rfl) ?_
        refine loadS (v := .int .i64 nn) (hc 2 _ rfl) ?_
        refine newR (o := .cells #[.int .i64 0, .slice none 0 0, .int .i64 0] _) H fun g8 w H => ?_
        refine storeO H 0 rfl rfl rfl fun w H => ?_
        refine storeO H 0 rfl rfl rfl fun w H => ?_
        refine storeO H 0 rfl rfl rfl fun w H => ?_
        have H4 : St W.heap.size W _ (.obj g8 (.cells #[.int .i64 kind, .slice A0 text.length c0', .int .i64 nn] 96) :: .obj g7 (.cells #[.int .i64 ((to + 1 : Nat) : Int), .int .i64 ind] 171) :: .rowB (.slice Ao s.out.length co) s.out :: .row _ 171 2 l.length (itV l) :: rowM Am cm g s.met :: Lb) := H
        have H := H4
        refine loadO H 0 rfl rfl ?_
        refine ifB (fun c1 => absurd c1 (by omega)) (fun c1 => ?_)
        refine loadO H 0 rfl rfl ?_
        refine ifB (fun c3 => absurd c3 (by omega)) (fun c3 => ?_)
        refine RegV.mk ?_
        refine loadO H 0 rfl rfl ?_
        refine gF (fun c6 => ?_) (fun c6 => absurd c6 (by omega))
        refine loadO H 0 rfl rfl ?_
        refine gF (fun c8 => ?_) (fun c8 => absurd c8 (by omega))
        refine loadO H 0 rfl rfl ?_
        refine ifB (fun c10 => absurd c10 (by omega)) (fun c10 => ?_)
        refine loadO H 0 rfl rfl ?_
        refine ifB (fun c12 => absurd c12 (by omega)) (fun c12 => ?_)
        refine RegV.mk ?_
        refine loadO H 0 rfl rfl ?_
        refine gF (fun c15 => ?_) (fun c15 => absurd c15 (by omega))
        refine loadO H 0 rfl rfl ?_
        refine ifB (fun c17 => absurd c17 (by omega)) (fun c17 => ?_)
        refine loadO H 0 rfl rfl ?_
        refine ifB (fun c19 => ?_) (fun c19 => absurd c19 (by omega))
        refine loadO H 1 rfl rfl ?_
        refine ar64 (by omega) (by omega) ?_
        refine idxI (hgrK _ _ H (fun it h => by simp [h])) (by omega) (by omega) fun b off hc => ?_
        rw [show (((to + 1 : Nat) : Int) - 1).toNat = to by omega, groupsL_get (by omega)] at hc
        rw [show (((to + 1 : Nat) : Int) - 1).toNat = to by omega]
        refine loadS hc ?_
        refine loadO H 1 rfl rfl ?_
        refine ar64 (by omega) (by omega) ?_
        have hf1 := spec_l2flat (A := A) (As := A1) (c := c) (cs := k1) (n := n) (B := W.heap.size) (W0 := W) (L := .obj g8 (.cells #[.int .i64 kind, .slice A0 text.length c0', .int .i64 nn] 96) :: .obj g7 (.cells #[.int .i64 ((to + 1 : Nat) : Int), .int .i64 ind] 171) :: .rowB (.slice Ao s.out.length co) s.out :: .row (.slice Ar l.length cr) 171 2 l.length (itV l) :: rowM Am cm g s.met :: Lb) (by omega) v.ok (fun w M H h => hxK w M H (fun it hi => h it (by simp [hi]))) (fun w M H h => hstK w M H (fun it hi => h it (by simp [hi]))) k (by omega) [] none 0 _ (by simp only [List.length_nil]; omega) (St.rowNil (e := 5) (sz := 1) H) (((to + 1 : Nat) : Int) - 1) (by omega)
        refine CallS.mk ok_l2flat (hf1.mono ?_)
        rintro e3 w3 hR
        cases hfd : flatD D with
        | none =>
          rw [hfd] at hR
          obtain ⟨rfl, H⟩ := hR
          have hfn := (fw_flat hgood).2 hfd
          refine RegV.mk ?_
          refine gNt ?_
          refine JoinV.mk ?_
          refine ifO (fun c3 => ?_) (fun c3 => ?_)
          · have hna := (huse c3).1
            have hcl := (huse c3).2.1
            have hxc := (huse c3).2.2
            have hgk := hgrD.1
            have hch := hchT c3
            refine idxN (hxc.ext H.below) (by omega) fun b off hc => ?_
            rw [hxk] at hc
            refine loadS hc ?_
            refine RegV.mk ?_
            refine gNot ?_
            refine gF (fun c2 => ?_) (fun c2 => ?_)
            · refine idxN (hxc.ext H.below) (by omega) fun b off hc => ?_
              rw [hxk] at hc
              refine loadS hc ?_
              refine gF (fun c0 => ?_) (fun c0 => ?_)
              · refine gT (fun c1 => absurd c1 (by omega)) (fun c1 => ?_)
                refine gY ?_
                refine ifF ?_
                refine ifB (fun c4 => absurd c4 (by omega)) (fun c4 => ?_)
                (refine idxRow H 4 rfl (by omega) (by omega) fun b0 hA _ => ?_; subst hA)
                refine storeIM H 4 rfl (cntG ((fs.map PieceG.p).take to)) 2 (by show 0 + (((cntG ((fs.map PieceG.p).take to)) : Nat) : Int).toNat * 1 = _; omega) hgk fun w H => ?_
                refine loadO H 1 rfl rfl ?_
                refine ar64 (by omega) (by omega) ?_
                refine loadO H 1 rfl rfl ?_
                refine RunS.mk ⟨.agg #[.int .i64 (↑(to + 1) - 1), .int .i64 ind], w, by kernel_rfl, ?_⟩
                rw [if_neg c1, if_pos (by omega)] at hch
                rw [hch] at hgr2
                refine litRB (e := 171) (sz := 2) (n := 1) H rfl (by decide) (bsIt1 (((to + 1 : Nat) : Int) - 1) ind _) fun A9 c9 w hB H => ?_
                refine appRS und_items inf_item rfl (by decide) (by decide) H 4 rfl (H.rd 0 rfl) itCell (by omega) fun A10 c10 w H => ?_
                have H := H.tl.tl.tl
                have H5 : St W.heap.size W w (.rowB (.slice Ao s.out.length co) s.out :: .row (.slice A10 (l.length + 1) c10) 171 2 (l.length + 1) (itV l ++ [.int .i64 (((to + 1 : Nat) : Int) - 1), .int .i64 ind]) :: rowM (some ⟨b0, 0, none⟩) cm g (s.met.set (cntG ((fs.map PieceG.p).take to)) 2) :: Lb) := H
                rw [show (((to + 1 : Nat) : Int)) - 1 = (to : Int) by omega, ← itV_cons (D, to, ind) l] at H5
                exact Exists.intro (sumS (toDS ((D, to, ind) :: l))) (And.intro hltB (And.intro rfl (And.intro rfl (And.intro rfl (And.intro rfl (And.intro rfl (And.intro rfl ⟨((D, to, ind) :: l), ⟨s.out, s.col, s.met.set (cntG ((fs.map PieceG.p).take to)) 2⟩, Ao, A10, co, c10, rfl, rfl, rfl, rfl, rfl, hgr2, hLB, hmetB, hbB, H5⟩)))))))
              · refine gNot ?_
                refine gNt ?_
                refine ifT ?_
                rw [if_neg c2, if_neg (by omega)] at hch
                rw [hch] at hgr2
                exact LayRes.no hgr2 H.none
            · refine gY ?_
              refine gT (fun c4 => ?_) (fun c4 => absurd c4 (by omega))
              refine gY ?_
              refine ifNot ?_
              refine ifF ?_
              rw [if_pos c2, if_neg (by omega)] at hch
              rw [hch] at hgr2
              exact LayRes.no hgr2 H.none
          · refine ifF ?_
            have hch := hchN c3
            have hgk := hgrD.1
            unfold chW at hch
            rw [decide_eq_false (by omega)] at hch
            rw [hch] at hgr2
            (refine idxRow H 4 rfl (by omega) (by omega) fun b0 hA _ => ?_; subst hA)
            refine storeIM H 4 rfl (cntG ((fs.map PieceG.p).take to)) 2 (by show 0 + (((cntG ((fs.map PieceG.p).take to)) : Nat) : Int).toNat * 1 = _; omega) hgk fun w H => ?_
            refine loadO H 1 rfl rfl ?_
            refine ar64 (by omega) (by omega) ?_
            refine loadO H 1 rfl rfl ?_
            refine RunS.mk ⟨.agg #[.int .i64 (↑(to + 1) - 1), .int .i64 ind], w, by kernel_rfl, ?_⟩
            refine litRB (e := 171) (sz := 2) (n := 1) H rfl (by decide) (bsIt1 (((to + 1 : Nat) : Int) - 1) ind _) fun A9 c9 w hB H => ?_
            refine appRS und_items inf_item rfl (by decide) (by decide) H 4 rfl (H.rd 0 rfl) itCell (by omega) fun A10 c10 w H => ?_
            have H := H.tl.tl.tl
            have H5 : St W.heap.size W w (.rowB (.slice Ao s.out.length co) s.out :: .row (.slice A10 (l.length + 1) c10) 171 2 (l.length + 1) (itV l ++ [.int .i64 (((to + 1 : Nat) : Int) - 1), .int .i64 ind]) :: rowM (some ⟨b0, 0, none⟩) cm g (s.met.set (cntG ((fs.map PieceG.p).take to)) 2) :: Lb) := H
            rw [show (((to + 1 : Nat) : Int)) - 1 = (to : Int) by omega, ← itV_cons (D, to, ind) l] at H5
            exact Exists.intro (sumS (toDS ((D, to, ind) :: l))) (And.intro hltB (And.intro rfl (And.intro rfl (And.intro rfl (And.intro rfl (And.intro rfl (And.intro rfl ⟨((D, to, ind) :: l), ⟨s.out, s.col, s.met.set (cntG ((fs.map PieceG.p).take to)) 2⟩, Ao, A10, co, c10, rfl, rfl, rfl, rfl, rfl, hgr2, hLB, hmetB, hbB, H5⟩)))))))
        | some t =>
          rw [hfd] at hR
          obtain ⟨A5, c5, rfl, H⟩ := hR
          have hfs := (fw_flat hgood).1 t hfd
          have htl2 := flat_len_le hfd
          have hbt : byteOK t := k.byte hbp t hfd
          have hbb := behind_bound (l := toDS l) (fun y hy => (hb.good y (by simp only [toDS, List.map_cons]; exact List.mem_cons_of_mem _ hy)).1)
          have hcol := hb.col
          have hcol0 := hb.col0
          simp only [toDS, List.map_cons, sumT_cons, DocT.tl] at hcol
          have hsum : (l.map fun x : ItS => (x.1, x.2.2)) = toDS l := rfl
          rw [hsum] at hcol
          have htw : tw t = cntP (ptsF t t.length 0) 0 := rfl
          have hgk := hgrD.1
          have hft : flatT D = t := by unfold flatT; rw [hfd]; rfl
          have hbF := hb.flat (show 0 ≤ fwD D by omega)
          rw [hft, hfs.1] at hbF
          refine RegV.mk ?_
          refine gY ?_
          refine callV ok_spec_TextWidth (spec_TextWidth (n := t.length) hbt (by omega) (H.rd 0 rfl)) H fun w H => ?_
          refine ar64 (by omega) (by omega) ?_
          refine callV ok_l3behind (spec_l3behind hl v.ok hb0 (hx.ext H.below) (hstK _ _ H (fun it h => by simp [h])) (H.rd 4 rfl) hL2 (by omega)) H fun w H => ?_
          refine ar64 (by omega) (by omega) ?_
          refine JoinV.mk ?_
          refine ifO (fun c2 => ?_) (fun c2 => ?_)
          · have hna := (huse c2).1
            have hcl := (huse c2).2.1
            have hxc := (huse c2).2.2
            have hch := hchT c2
            rw [if_pos (show 0 ≤ fwD D by omega)] at hch
            refine idxN (hxc.ext H.below) (by omega) fun b off hc => ?_
            rw [hxk] at hc
            refine loadS hc ?_
            refine RegV.mk ?_
            refine gNot ?_
            refine gF (fun c2 => ?_) (fun c2 => ?_)
            · refine idxN (hxc.ext H.below) (by omega) fun b off hc => ?_
              rw [hxk] at hc
              refine loadS hc ?_
              refine gF (fun c0 => ?_) (fun c0 => ?_)
              · refine gT (fun c1 => absurd c1 (by omega)) (fun c1 => ?_)
                refine gY ?_
                refine ifF ?_
                refine ifB (fun c4 => absurd c4 (by omega)) (fun c4 => ?_)
                (refine idxRow H 5 rfl (by omega) (by omega) fun b0 hA _ => ?_; subst hA)
                refine storeIM H 5 rfl (cntG ((fs.map PieceG.p).take to)) 2 (by show 0 + (((cntG ((fs.map PieceG.p).take to)) : Nat) : Int).toNat * 1 = _; omega) hgk fun w H => ?_
                refine loadO H 2 rfl rfl ?_
                refine ar64 (by omega) (by omega) ?_
                refine loadO H 2 rfl rfl ?_
                refine RunS.mk ⟨.agg #[.int .i64 (↑(to + 1) - 1), .int .i64 ind], w, by kernel_rfl, ?_⟩
                rw [if_neg c1, if_pos (by omega)] at hch
                rw [hch] at hgr2
                refine litRB (e := 171) (sz := 2) (n := 1) H rfl (by decide) (bsIt1 (((to + 1 : Nat) : Int) - 1) ind _) fun A9 c9 w hB H => ?_
                refine appRS und_items inf_item rfl (by decide) (by decide) H 5 rfl (H.rd 0 rfl) itCell (by omega) fun A10 c10 w H => ?_
                have H := H.tl.tl.tl.tl
                have H5 : St W.heap.size W w (.rowB (.slice Ao s.out.length co) s.out :: .row (.slice A10 (l.length + 1) c10) 171 2 (l.length + 1) (itV l ++ [.int .i64 (((to + 1 : Nat) : Int) - 1), .int .i64 ind]) :: rowM (some ⟨b0, 0, none⟩) cm g (s.met.set (cntG ((fs.map PieceG.p).take to)) 2) :: Lb) := H
                rw [show (((to + 1 : Nat) : Int)) - 1 = (to : Int) by omega, ← itV_cons (D, to, ind) l] at H5
                exact Exists.intro (sumS (toDS ((D, to, ind) :: l))) (And.intro hltB (And.intro rfl (And.intro rfl (And.intro rfl (And.intro rfl (And.intro rfl (And.intro rfl ⟨((D, to, ind) :: l), ⟨s.out, s.col, s.met.set (cntG ((fs.map PieceG.p).take to)) 2⟩, Ao, A10, co, c10, rfl, rfl, rfl, rfl, rfl, hgr2, hLB, hmetB, hbB, H5⟩)))))))
              · refine gNot ?_
                refine gNt ?_
                refine ifT ?_
                rw [if_neg c2, if_neg (by omega)] at hch
                rw [hch] at hgr2
                exact LayRes.no hgr2 H.none
            · refine gY ?_
              refine gT (fun c4 => ?_) (fun c4 => absurd c4 (by omega))
              refine gY ?_
              refine ifNot ?_
              refine ifT ?_
              refine ifB (fun c8 => ?_) (fun c8 => absurd c8 (by omega))
              refine loadO H 2 rfl rfl ?_
              rw [if_pos c2] at hch
              rw [hch] at hgr2
              have hgr2 : layD (chS use width cs) (toDS l) ⟨s.out ++ flatT D, s.col + fwD D, markF (.group D (cntG ((fs.map PieceG.p).take to))) s.met⟩ = r := hgr2
              rw [hft, hfs.1] at hgr2
              refine CallS.mk ok_l3markFlat ((spec_l3markFlat (A := A) (As := A1) (Ag := A2) (c := c) (cs := k1) (cg := k2) (L := Lb) hl hxK hstK hgrK (Loc.group h a k) (by rw [← v.groups]; exact Nat.le_refl _) _ (fun it hi => List.mem_cons_of_mem _ (List.mem_cons_of_mem _ (List.mem_cons_of_mem _ (List.mem_cons_of_mem _ (List.mem_cons_of_mem _ hi))))) s.met _ hmet H.up5 _ rfl).mono ?_)
              rintro _ w5 ⟨rfl, H⟩
              have H := H.dn5
              refine appBS (xs := s.out) (ys := t) H 3 rfl (H.rd 0 rfl) (by omega) fun A6 k6 w H => ?_
              refine callV ok_spec_TextWidth (spec_TextWidth (n := t.length) hbt (by omega) (H.rd 0 rfl)) H fun w H => ?_
              refine ar64 (by omega) (by omega) ?_
              have H := H.tl.tl.tl
              exact Exists.intro (sumS (toDS l)) (And.intro hltF (And.intro rfl (And.intro rfl (And.intro rfl (And.intro rfl (And.intro rfl (And.intro rfl ⟨l, ⟨s.out ++ t, s.col + tw t, markF (.group D (cntG ((fs.map PieceG.p).take to))) s.met⟩, A6, Ar, k6, cr, rfl, rfl, rfl, rfl, rfl, hgr2, hL2, hmetF, hbF, H⟩)))))))
          · refine ifB (fun c3 => ?_) (fun c3 => ?_)
            · refine loadO H 2 rfl rfl ?_
              have hch := hchN c2
              unfold chW at hch
              rw [decide_eq_true (by omega)] at hch
              rw [hch] at hgr2
              have hgr2 : layD (chS use width cs) (toDS l) ⟨s.out ++ flatT D, s.col + fwD D, markF (.group D (cntG ((fs.map PieceG.p).take to))) s.met⟩ = r := hgr2
              rw [hft, hfs.1] at hgr2
              refine CallS.mk ok_l3markFlat ((spec_l3markFlat (A := A) (As := A1) (Ag := A2) (c := c) (cs := k1) (cg := k2) (L := Lb) hl hxK hstK hgrK (Loc.group h a k) (by rw [← v.groups]; exact Nat.le_refl _) _ (fun it hi => List.mem_cons_of_mem _ (List.mem_cons_of_mem _ (List.mem_cons_of_mem _ (List.mem_cons_of_mem _ (List.mem_cons_of_mem _ hi))))) s.met _ hmet H.up5 _ rfl).mono ?_)
              rintro _ w5 ⟨rfl, H⟩
              have H := H.dn5
              refine appBS (xs := s.out) (ys := t) H 3 rfl (H.rd 0 rfl) (by omega) fun A6 k6 w H => ?_
              refine callV ok_spec_TextWidth (spec_TextWidth (n := t.length) hbt (by omega) (H.rd 0 rfl)) H fun w H => ?_
              refine ar64 (by omega) (by omega) ?_
              have H := H.tl.tl.tl
              exact Exists.intro (sumS (toDS l)) (And.intro hltF (And.intro rfl (And.intro rfl (And.intro rfl (And.intro rfl (And.intro rfl (And.intro rfl ⟨l, ⟨s.out ++ t, s.col + tw t, markF (.group D (cntG ((fs.map PieceG.p).take to))) s.met⟩, A6, Ar, k6, cr, rfl, rfl, rfl, rfl, rfl, hgr2, hL2, hmetF, hbF, H⟩)))))))
            · (refine idxRow H 5 rfl (by omega) (by omega) fun b0 hA _ => ?_; subst hA)
              refine storeIM H 5 rfl (cntG ((fs.map PieceG.p).take to)) 2 (by show 0 + (((cntG ((fs.map PieceG.p).take to)) : Nat) : Int).toNat * 1 = _; omega) hgk fun w H => ?_
              refine loadO H 2 rfl rfl ?_
              refine ar64 (by omega) (by omega) ?_
              refine loadO H 2 rfl rfl ?_
              refine RunS.mk ⟨.agg #[.int .i64 (↑(to + 1) - 1), .int .i64 ind], w, by kernel_rfl, ?_⟩
              have hch := hchN c2
              unfold chW at hch
              rw [decide_eq_false (by omega)] at hch
              rw [hch] at hgr2
              refine litRB (e := 171) (sz := 2) (n := 1) H rfl (by decide) (bsIt1 (((to + 1 : Nat) : Int) - 1) ind _) fun A9 c9 w hB H => ?_
              refine appRS und_items inf_item rfl (by decide) (by decide) H 5 rfl (H.rd 0 rfl) itCell (by omega) fun A10 c10 w H => ?_
              have H := H.tl.tl.tl.tl
              have H5 : St W.heap.size W w (.rowB (.slice Ao s.out.length co) s.out :: .row (.slice A10 (l.length + 1) c10) 171 2 (l.length + 1) (itV l ++ [.int .i64 (((to + 1 : Nat) : Int) - 1), .int .i64 ind]) :: rowM (some ⟨b0, 0, none⟩) cm g (s.met.set (cntG ((fs.map PieceG.p).take to)) 2) :: Lb) := H
              rw [show (((to + 1 : Nat) : Int)) - 1 = (to : Int) by omega, ← itV_cons (D, to, ind) l] at H5
              exact Exists.intro (sumS (toDS ((D, to, ind) :: l))) (And.intro hltB (And.intro rfl (And.intro rfl (And.intro rfl (And.intro rfl (And.intro rfl (And.intro rfl ⟨((D, to, ind) :: l), ⟨s.out, s.col, s.met.set (cntG ((fs.map PieceG.p).take to)) 2⟩, Ao, A10, co, c10, rfl, rfl, rfl, rfl, rfl, hgr2, hLB, hmetB, hbB, H5⟩)))))))
      | @cat to p L R h a kr hp kl =>
        obtain ⟨f, hf, rfl⟩ := piece_of h
        have hto := (List.getElem?_eq_some_iff.1 hf).1
        have hk := (hx.kids f (List.mem_of_getElem? hf))
        have hbf := hb0.b f (List.mem_of_getElem? hf)
        obtain ⟨A0, c0', e0⟩ := PieceG.shape hk
        obtain ⟨textV, kind, text, nn⟩ := f
        dsimp only at e0 hf hbf
        subst e0
        have hk2 : RdB W (.slice A0 text.length c0') text := hk
        have H := H0
        have a : kind = 6 := a
        have hb2 : LayB d.tl d.size (toDS ((L, startM (fs.map PieceG.p) (to - 1), ind) :: (R, to, ind) :: l)) s := hb.cat
        have hr2 : layD (chS use width cs) (toDS ((L, startM (fs.map PieceG.p) (to - 1), ind) :: (R, to, ind) :: l)) s = r := lay_cat.symm.trans hr
        have hlt : sumS (toDS ((L, startM (fs.map PieceG.p) (to - 1), ind) :: (R, to, ind) :: l)) < m := by rw [hm]; simp only [toDS, List.map_cons, sumS_cons, DocT.size] <;> omega
        have hst0 : ((startsL (fs.map PieceG.p) n).getD (((to + 1 : Nat) : Int) - 2).toNat 0) = (startM (fs.map PieceG.p) (to - 1) : Int) := by rw [show (((to + 1 : Nat) : Int) - 2).toNat = to - 1 by omega]; exact startsL_get (by omega)
        have hL3 : ∀ z ∈ ((L, startM (fs.map PieceG.p) (to - 1), ind) :: (R, to, ind) :: l), Loc (fs.map PieceG.p) z.1 z.2.1 := by intro z hz; rcases List.mem_cons.1 hz with rfl | hz; exact kl; rcases List.mem_cons.1 hz with rfl | hz; exact kr; exact hL2 z hz
        refine ifB (fun c0 => ?_) (fun c0 => absurd (show (((l.length + 1 : Nat)) : Int) > 0 by omega) c0)
        refine ar64 (by show _ ≤ ((l.length + 1 : Nat) : Int) - 1; omega) (by show ((l.length + 1 : Nat) : Int) - 1 ≤ _; omega) ?_
        refine idxR (H.rd 1 rfl) (by show 0 ≤ ((l.length + 1 : Nat) : Int) - 1; omega) (by show ((l.length + 1 : Nat) : Int) - 1 < _; omega) fun b off hA hcc => ?_
        have hc0 : _ = some (Value.int .i64 ((to + 1 : Nat) : Int)) := (hcc 0 (by decide)).trans (by rw [show (((l.length + 1 : Nat)) : Int) - 1 = (l.length : Int) by omega, Int.toNat_natCast, List.getElem?_append_right (by omega), show l.length * 2 + 0 - (itV l).length = 0 by omega]; rfl)
        have hc1 : _ = some (Value.int .i64 ind) := (hcc 1 (by decide)).trans (by rw [show (((l.length + 1 : Nat)) : Int) - 1 = (l.length : Int) by omega, Int.toNat_natCast, List.getElem?_append_right (by omega), show l.length * 2 + 1 - (itV l).length = 1 by omega]; rfl)
        refine loadS hc0 ?_
        refine loadS hc1 ?_
        refine newR (o := .cells #[.int .i64 0, .int .i64 0] _) H fun g7 w H => ?_
        refine storeO H 0 rfl rfl rfl fun w H => ?_
        refine storeO H 0 rfl rfl rfl fun w H => ?_
        refine ar64 (by show _ ≤ ((l.length + 1 : Nat) : Int) - 1; omega) (by show ((l.length + 1 : Nat) : Int) - 1 ≤ _; omega) ?_
        refine cutRow (sz := 2) (h := l.length) H 2 rfl rfl (by show ((l.length + 1 : Nat) : Int) - 1 = _; omega) (by omega) fun H => ?_
        have H3 : St W.heap.size W _ (.obj g7 (.cells #[.int .i64 ((to + 1 : Nat) : Int), .int .i64 ind] 171) :: .rowB (.slice Ao s.out.length co) s.out :: .row _ 171 2 l.length ((itV l ++ [Value.int .i64 ((to + 1 : Nat) : Int), Value.int .i64 ind]).take (l.length * 2)) :: rowM Am cm g s.met :: Lb) := H
        rw [show (itV l ++ [Value.int .i64 ((to + 1 : Nat) : Int), Value.int .i64 ind]).take (l.length * 2) = itV l by rw [← hivl, List.take_left']; rfl] at H3
        have H := H3
        refine loadO H 0 rfl rfl ?_
        refine ar64 (by omega) (by omega) ?_
        refine idxCI (cells := PieceG.cells) to (by show ((to + 1 : Nat) : Int) - 1 = _; omega) PieceG.cells_len (hx.ext H.below).row hf (by omega) fun b off hc => ?_
        refine loadS (v := .int .i64 kind) (hc 0 _ rfl) ?_
        refine loadS (v := .slice A0 text.length c0') (hc 1 _ rfl) ?_
        refine loadS (v := .int .i64 nn) (hc 2 _ rfl) ?_
        refine newR (o := .cells #[.int .i64 0, .slice none 0 0, .int .i64 0] _) H fun g8 w H => ?_
        refine storeO H 0 rfl rfl rfl fun w H => ?_
        refine storeO H 0 rfl rfl rfl fun w H => ?_
        refine storeO H 0 rfl rfl rfl fun w H => ?_
        have H4 : St W.heap.size W _ (.obj g8 (.cells #[.int .i64 kind, .slice A0 text.length c0', .int .i64 nn] 96) :: .obj g7 (.cells #[.int .i64 ((to + 1 : Nat) : Int), .int .i64 ind] 171) :: .rowB (.slice Ao s.out.length co) s.out :: .row _ 171 2 l.length (itV l) :: rowM Am cm g s.met :: Lb) := H
        have H := H4
        refine loadO H 0 rfl rfl ?_
        refine ifB (fun c1 => absurd c1 (by omega)) (fun c1 => ?_)
        refine loadO H 0 rfl rfl ?_
        refine ifB (fun c3 => absurd c3 (by omega)) (fun c3 => ?_)
        refine RegV.mk ?_
        refine loadO H 0 rfl rfl ?_
        refine gF (fun c6 => ?_) (fun c6 => absurd c6 (by omega))
        refine loadO H 0 rfl rfl ?_
        refine gF (fun c8 => ?_) (fun c8 => absurd c8 (by omega))
        refine loadO H 0 rfl rfl ?_
        refine ifB (fun c10 => absurd c10 (by omega)) (fun c10 => ?_)
        refine loadO H 0 rfl rfl ?_
        refine ifB (fun c12 => absurd c12 (by omega)) (fun c12 => ?_)
        refine RegV.mk ?_
        refine loadO H 0 rfl rfl ?_
        refine gF (fun c15 => absurd c15 (by omega)) (fun c15 => ?_)
        refine ifT ?_
        refine JoinV.mk ?_
        refine loadO H 0 rfl rfl ?_
        refine ifB (fun c19 => ?_) (fun c19 => absurd c19 (by omega))
        refine loadO H 1 rfl rfl ?_
        refine ar64 (by omega) (by omega) ?_
        refine loadO H 1 rfl rfl ?_
        refine RunS.mk ⟨.agg #[.int .i64 (↑(to + 1) - 1), .int .i64 ind], w, by kernel_rfl, ?_⟩
        refine litRB (e := 171) (sz := 2) (n := 1) H rfl (by decide) (bsIt1 (((to + 1 : Nat) : Int) - 1) ind _) fun A7 c7 w hB H => ?_
        refine appRS und_items inf_item rfl (by decide) (by decide) H 4 rfl (H.rd 0 rfl) itCell (by omega) fun A8 c8 w H => ?_
        have H := H.tl
        refine regG [9, 10, 11] [] [3, 6, 8] [0, 1, 2, 3, 4, 5, 6, 7, 8, 9, 10, 11, 12] (by kernel_rfl) ?_
        refine drawR H fun w H => ?_
        refine loadO H 1 rfl rfl ?_
        refine ar64 (by omega) (by omega) ?_
        refine idxI (hstK _ _ H (fun it h => by simp [h])) (by omega) (by omega) fun b off hc => ?_
        refine loadS hc ?_
        rw [hst0]
        refine loadO H 1 rfl rfl ?_
        refine RunS.mk ⟨.agg #[.int .i64 (↑(startM (List.map PieceG.p fs) (to - 1))), .int .i64 ind], w, by kernel_rfl, ?_⟩
        refine litRB (e := 171) (sz := 2) (n := 1) H rfl (by decide) (bsIt1 (startM (fs.map PieceG.p) (to - 1)) ind _) fun A9 c9 w hB H => ?_
        refine appRS und_items inf_item rfl (by decide) (by decide) H 4 rfl (H.rd 0 rfl) itCell (by omega) fun A10 c10 w H => ?_
        have H := H.tl.tl.tl
        have H5 : St W.heap.size W w (.rowB (.slice Ao s.out.length co) s.out :: .row (.slice A10 (l.length + 1 + 1) c10) 171 2 (l.length + 1 + 1) (itV l ++ [.int .i64 (((to + 1 : Nat) : Int) - 1), .int .i64 ind] ++ [.int .i64 (startM (fs.map PieceG.p) (to - 1)), .int .i64 ind]) :: rowM Am cm g s.met :: Lb) := H
        rw [show (((to + 1 : Nat) : Int)) - 1 = (to : Int) by omega, ← itV_cons (R, to, ind) l, ← itV_cons (L, startM (fs.map PieceG.p) (to - 1), ind) ((R, to, ind) :: l)] at H5
        exact Exists.intro (sumS (toDS ((L, startM (fs.map PieceG.p) (to - 1), ind) :: (R, to, ind) :: l))) (And.intro hlt (And.intro rfl (And.intro rfl (And.intro rfl (And.intro rfl (And.intro rfl (And.intro rfl ⟨((L, startM (fs.map PieceG.p) (to - 1), ind) :: (R, to, ind) :: l), s, Ao, A10, co, c10, rfl, rfl, rfl, rfl, rfl, hr2, hL3, hmet, hb2, H5⟩)))))))
      | @alt to p L R h a kr hp kl =>
        obtain ⟨f, hf, rfl⟩ := piece_of h
        have hto := (List.getElem?_eq_some_iff.1 hf).1
        have hk := (hx.kids f (List.mem_of_getElem? hf))
        have hbf := hb0.b f (List.mem_of_getElem? hf)
        obtain ⟨A0, c0', e0⟩ := PieceG.shape hk
        obtain ⟨textV, kind, text, nn⟩ := f
        dsimp only at e0 hf hbf
        subst e0
        have hk2 : RdB W (.slice A0 text.length c0') text := hk
        have H := H0
        have a : kind = 9 := a
        have hb2 : LayB d.tl d.size (toDS ((L, startM (fs.map PieceG.p) (to - 1), ind) :: l)) s := hb.alt
        have hr2 : layD (chS use width cs) (toDS ((L, startM (fs.map PieceG.p) (to - 1), ind) :: l)) s = r := lay_alt.symm.trans hr
        have hlt : sumS (toDS ((L, startM (fs.map PieceG.p) (to - 1), ind) :: l)) < m := by rw [hm]; simp only [toDS, List.map_cons, sumS_cons, DocT.size] <;> omega
        have hst0 : ((startsL (fs.map PieceG.p) n).getD (((to + 1 : Nat) : Int) - 2).toNat 0) = (startM (fs.map PieceG.p) (to - 1) : Int) := by rw [show (((to + 1 : Nat) : Int) - 2).toNat = to - 1 by omega]; exact startsL_get (by omega)
        have hL3 : ∀ z ∈ ((L, startM (fs.map PieceG.p) (to - 1), ind) :: l), Loc (fs.map PieceG.p) z.1 z.2.1 := by intro z hz; rcases List.mem_cons.1 hz with rfl | hz; exact kl; exact hL2 z hz
        refine ifB (fun c0 => ?_) (fun c0 => absurd (show (((l.length + 1 : Nat)) : Int) > 0 by omega) c0)
        refine ar64 (by show _ ≤ ((l.length + 1 : Nat) : Int) - 1; omega) (by show ((l.length + 1 : Nat) : Int) - 1 ≤ _; omega) ?_
        refine idxR (H.rd 1 rfl) (by show 0 ≤ ((l.length + 1 : Nat) : Int) - 1; omega) (by show ((l.length + 1 : Nat) : Int) - 1 < _; omega) fun b off hA hcc => ?_
        have hc0 : _ = some (Value.int .i64 ((to + 1 : Nat) : Int)) := (hcc 0 (by decide)).trans (by rw [show (((l.length + 1 : Nat)) : Int) - 1 = (l.length : Int) by omega, Int.toNat_natCast, List.getElem?_append_right (by omega), show l.length * 2 + 0 - (itV l).length = 0 by omega]; rfl)
        have hc1 : _ = some (Value.int .i64 ind) := (hcc 1 (by decide)).trans (by rw [show (((l.length + 1 : Nat)) : Int) - 1 = (l.length : Int) by omega, Int.toNat_natCast, List.getElem?_append_right (by omega), show l.length * 2 + 1 - (itV l).length = 1 by omega]; rfl)
        refine loadS hc0 ?_
        refine loadS hc1 ?_
        refine newR (o := .cells #[.int .i64 0, .int .i64 0] _) H fun g7 w H => ?_
        refine storeO H 0 rfl rfl rfl fun w H => ?_
        refine storeO H 0 rfl rfl rfl fun w H => ?_
        refine ar64 (by show _ ≤ ((l.length + 1 : Nat) : Int) - 1; omega) (by show ((l.length + 1 : Nat) : Int) - 1 ≤ _; omega) ?_
        refine cutRow (sz := 2) (h := l.length) H 2 rfl rfl (by show ((l.length + 1 : Nat) : Int) - 1 = _; omega) (by omega) fun H => ?_
        have H3 : St W.heap.size W _ (.obj g7 (.cells #[.int .i64 ((to + 1 : Nat) : Int), .int .i64 ind] 171) :: .rowB (.slice Ao s.out.length co) s.out :: .row _ 171 2 l.length ((itV l ++ [Value.int .i64 ((to + 1 : Nat) : Int), Value.int .i64 ind]).take (l.length * 2)) :: rowM Am cm g s.met :: Lb) := H
        rw [show (itV l ++ [Value.int .i64 ((to + 1 : Nat) : Int), Value.int .i64 ind]).take (l.length * 2) = itV l by rw [← hivl, List.take_left']; rfl] at H3
        have H := H3
        refine loadO H 0 rfl rfl ?_
        refine ar64 (by omega) (by omega) ?_
        refine idxCI (cells := PieceG.cells) to (by show ((to + 1 : Nat) : Int) - 1 = _; omega) PieceG.cells_len (hx.ext H.below).row hf (by omega) fun b off hc => ?_
        refine loadS (v := .int .i64 kind) (hc 0 _ rfl) ?_
        refine loadS (v := .slice A0 text.length c0') (hc 1 _ rfl) ?_
        refine loadS (v := .int .i64 nn) (hc 2 _ rfl) ?_
        refine newR (o := .cells #[.int .i64 0, .slice none 0 0, .int .i64 0] _) H fun g8 w H => ?_
        refine storeO H 0 rfl rfl rfl fun w H => ?_
        refine storeO H 0 rfl rfl rfl fun w H => ?_
        refine storeO H 0 rfl rfl rfl fun w H => ?_
        have H4 : St W.heap.size W _ (.obj g8 (.cells #[.int .i64 kind, .slice A0 text.length c0', .int .i64 nn] 96) :: .obj g7 (.cells #[.int .i64 ((to + 1 : Nat) : Int), .int .i64 ind] 171) :: .rowB (.slice Ao s.out.length co) s.out :: .row _ 171 2 l.length (itV l) :: rowM Am cm g s.met :: Lb) := H
        have H := H4
        refine loadO H 0 rfl rfl ?_
        refine ifB (fun c1 => absurd c1 (by omega)) (fun c1 => ?_)
        refine loadO H 0 rfl rfl ?_
        refine ifB (fun c3 => absurd c3 (by omega)) (fun c3 => ?_)
        refine RegV.mk ?_
        refine loadO H 0 rfl rfl ?_
        refine gF (fun c6 => ?_) (fun c6 => absurd c6 (by omega))
        refine loadO H 0 rfl rfl ?_
        refine gF (fun c8 => ?_) (fun c8 => absurd c8 (by omega))
        refine loadO H 0 rfl rfl ?_
        refine ifB (fun c10 => absurd c10 (by omega)) (fun c10 => ?_)
        refine loadO H 0 rfl rfl ?_
        refine ifB (fun c12 => absurd c12 (by omega)) (fun c12 => ?_)
        refine RegV.mk ?_
        refine loadO H 0 rfl rfl ?_
        refine gF (fun c15 => ?_) (fun c15 => absurd c15 (by omega))
        refine loadO H 0 rfl rfl ?_
        refine ifB (fun c17 => ?_) (fun c17 => absurd c17 (by omega))
        refine JoinV.mk ?_
        refine loadO H 0 rfl rfl ?_
        refine ifB (fun c20 => absurd c20 (by omega)) (fun c20 => ?_)
        refine regG [9, 10, 11] [] [3, 6, 8] [0, 1, 2, 3, 4, 5, 6, 7, 8, 9, 10, 11, 12] (by kernel_rfl) ?_
        refine drawR H fun w H => ?_
        refine loadO H 1 rfl rfl ?_
        refine ar64 (by omega) (by omega) ?_
        refine idxI (hstK _ _ H (fun it h => by simp [h])) (by omega) (by omega) fun b off hc => ?_
        refine loadS hc ?_
        rw [hst0]
        refine loadO H 1 rfl rfl ?_
        refine RunS.mk ⟨.agg #[.int .i64 (↑(startM (List.map PieceG.p fs) (to - 1))), .int .i64 ind], w, by kernel_rfl, ?_⟩
        refine litRB (e := 171) (sz := 2) (n := 1) H rfl (by decide) (bsIt1 (startM (fs.map PieceG.p) (to - 1)) ind _) fun A9 c9 w hB H => ?_
        refine appRS und_items inf_item rfl (by decide) (by decide) H 4 rfl (H.rd 0 rfl) itCell (by omega) fun A10 c10 w H => ?_
        have H := H.tl.tl.tl
        have H5 : St W.heap.size W w (.rowB (.slice Ao s.out.length co) s.out :: .row (.slice A10 (l.length + 1) c10) 171 2 (l.length + 1) (itV l ++ [.int .i64 (startM (fs.map PieceG.p) (to - 1)), .int .i64 ind]) :: rowM Am cm g s.met :: Lb) := H
        rw [← itV_cons (L, startM (fs.map PieceG.p) (to - 1), ind) l] at H5
        exact Exists.intro (sumS (toDS ((L, startM (fs.map PieceG.p) (to - 1), ind) :: l))) (And.intro hlt (And.intro rfl (And.intro rfl (And.intro rfl (And.intro rfl (And.intro rfl (And.intro rfl ⟨((L, startM (fs.map PieceG.p) (to - 1), ind) :: l), s, Ao, A10, co, c10, rfl, rfl, rfl, rfl, rfl, hr2, hL3, hmet, hb2, H5⟩)))))))
end Go.Proofs.YtfhpgfbakimmhaaE
