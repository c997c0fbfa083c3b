/- The program's docOf. -/
import Derived.Test.YtfhpgfbakimmhaaTDocI
import Derived.Test.YtfhpgfbakimmhaaTGen
import Derived.Test.YtfhpgfbakimmhaaTIdx
import Derived.Test.YtfhpgfbakimmhaaTDocS2
import Derived.Test.YtfhpgfbakimmhaaPStk
import Derived.Laws.Small
namespace Go.Proofs.YtfhpgfbakimmhaaE
open Go Go.RowKit
set_option linter.unusedVariables false
set_option linter.unusedSimpArgs false
set_option maxRecDepth 100000
set_option maxHeartbeats 8000000

theorem undDocs : Try.prog.underlying 147 = some (.slice 102) := by kernel_rfl
theorem infDoc : (Try.prog.info? 102).map (fun i => (i.zero, i.size, i.bytes)) = some (some .nilIface, 1, 16) := by kernel_rfl
def dvals (Gs : List DocG) : List Value := (Gs.map DocG.v).reverse
theorem dvals_len (Gs : List DocG) : (dvals Gs).length = Gs.length := by simp [dvals]
abbrev It.rowD (v : Value) (Gs : List DocG) : It := .row v 102 1 Gs.length (dvals Gs)
theorem idxV {w : World} {A : Option Addr} {n c : Nat} {vals : List Value} {i : Int} {v : Value} {K : Nat → Nat → Prop} (k0 : Nat) (hi : i = (k0 : Int)) (h : Rd w (.slice A n c) 1 n vals) (hx : vals[k0]? = some v) (hn : k0 < n)
    (k : ∀ b off, w.cell? ⟨b, off + i.toNat * 1, none⟩ = some v → K b off) : IdxS A n i K := by
  subst hi
  refine idxR h (by omega) (by omega) fun b off hA hc => k b off ?_
  have := hc 0 (by omega)
  simp only [Nat.add_zero, Nat.mul_one, Int.toNat_natCast] at this ⊢
  rw [this]; exact hx
theorem dvals_get1 (A : DocG) (Q : List DocG) : (dvals (A :: Q))[Q.length]? = some A.v := by
  have : (Q.map DocG.v).reverse.length = Q.length := by simp
  simp only [dvals, List.map_cons, List.reverse_cons]
  rw [List.getElem?_append_right (by omega), this, Nat.sub_self]; rfl
theorem dvals_get2 (A B : DocG) (Q : List DocG) : (dvals (A :: B :: Q))[Q.length]? = some B.v ∧ (dvals (A :: B :: Q))[Q.length + 1]? = some A.v := by
  refine ⟨?_, dvals_get1 A (B :: Q)⟩
  have : (Q.map DocG.v).reverse.length = Q.length := by simp
  simp only [dvals, List.map_cons, List.reverse_cons, List.append_assoc]
  rw [List.getElem?_append_right (by omega), this, Nat.sub_self]; rfl
theorem twoG_of {Gs : List DocG} {st : List Ent} (h : Gs.map DocG.d = st.map Ent.d) (hl : 2 ≤ st.length) : ∃ A B Q a b q, Gs = A :: B :: Q ∧ st = a :: b :: q ∧ A.d = a.d ∧ B.d = b.d ∧ Q.length = q.length := by
  match Gs, st, h, hl with
  | A :: B :: Q, a :: b :: q, h, _ => simp only [List.map_cons, List.cons.injEq] at h; exact ⟨A, B, Q, a, b, q, rfl, rfl, h.1, h.2.1, by have := congrArg List.length h.2.2; simpa using this⟩
  | [], a :: q, h, _ => simp at h
  | [A], a :: b :: q, h, _ => simp at h
  | _, [], _, hl => simp at hl
  | _, [a], _, hl => simp at hl
theorem oneG_of {Gs : List DocG} {st : List Ent} (h : Gs.map DocG.d = st.map Ent.d) (hl : 1 ≤ st.length) : ∃ A Q a q, Gs = A :: Q ∧ st = a :: q ∧ A.d = a.d ∧ Q.length = q.length := by
  match Gs, st, h, hl with
  | A :: Q, a :: q, h, _ => simp only [List.map_cons, List.cons.injEq] at h; exact ⟨A, Q, a, q, rfl, rfl, h.1, by have := congrArg List.length h.2; simpa using this⟩
  | [], a :: q, h, _ => simp at h
  | _, [], _, hl => simp at hl
theorem DocG.v_if (D : DocG) : ∃ t v, D.v = .iface t v := by cases D <;> exact ⟨_, _, rfl⟩
theorem bTwo (A B : DocG) (w : World) : (Instr.build 162 #[(0, B.v), (1, A.v)]).run Try.prog w = .ok (.agg #[B.v, A.v]) w := by
  obtain ⟨t1, v1, e1⟩ := A.v_if
  obtain ⟨t2, v2, e2⟩ := B.v_if
  rw [e1, e2]; kernel_rfl
theorem bCat (A B : DocG) (w : World) : (Instr.build 164 #[(1, .agg #[B.v, A.v])]).run Try.prog w = .ok (.agg #[B.v, A.v]) w := by
  obtain ⟨t1, v1, e1⟩ := A.v_if
  obtain ⟨t2, v2, e2⟩ := B.v_if
  rw [e1, e2]; kernel_rfl
theorem bAlt (A B : DocG) (w : World) : (Instr.build 166 #[(1, .agg #[B.v, A.v])]).run Try.prog w = .ok (.agg #[B.v, A.v]) w := by
  obtain ⟨t1, v1, e1⟩ := A.v_if
  obtain ⟨t2, v2, e2⟩ := B.v_if
  rw [e1, e2]; kernel_rfl
theorem bOne (A : DocG) (w : World) : (Instr.build 117 #[(0, A.v)]).run Try.prog w = .ok (.agg #[A.v]) w := by
  obtain ⟨t1, v1, e1⟩ := A.v_if
  rw [e1]; kernel_rfl
theorem bNest (A : DocG) (n : Int) (w : World) : (Instr.build 169 #[(1, .agg #[A.v]), (2, .int .i64 n)]).run Try.prog w = .ok (.agg #[A.v, .int .i64 n]) w := by
  obtain ⟨t1, v1, e1⟩ := A.v_if
  rw [e1]; kernel_rfl
theorem bGroup (A : DocG) (n : Int) (w : World) : (Instr.build 119 #[(0, .agg #[A.v]), (1, .int .i64 n)]).run Try.prog w = .ok (.agg #[A.v, .int .i64 n]) w := by
  obtain ⟨t1, v1, e1⟩ := A.v_if
  rw [e1]; kernel_rfl
theorem bsDoc (D : DocG) (w : World) : (Instr.buildSlice 147 1 #[(0, D.v)]).run Try.prog w = .ok (.slice (some ⟨w.heap.size, 0, none⟩) 1 1) (w.alloc (.cells [D.v].toArray 102)) := by
  obtain ⟨t1, v1, e1⟩ := D.v_if
  rw [e1]; kernel_rfl
theorem dvals_step (Gs : List DocG) (k q : Nat) (hk : k ≤ Gs.length) (hq : q = Gs.length - k) (D : DocG) : (dvals Gs).take (q * 1) ++ [D.v] = dvals (D :: Gs.drop k) := by
  simp only [dvals, List.map_cons, List.reverse_cons, Nat.mul_one]
  rw [List.take_reverse, List.length_map, hq, show Gs.length - (Gs.length - k) = k by omega, List.map_drop]
theorem nvals_step (st : List Ent) (k q : Nat) (hk : k ≤ st.length) (hq : q = st.length - k) (e : Ent) : ((nvals st).map (Value.int .i64)).take (q * 1) ++ [e.d.nestD].map (Value.int .i64) = (nvals (e :: st.drop k)).map (.int .i64) := by
  simp only [nvals, List.map_cons, List.reverse_cons, Nat.mul_one]
  rw [← List.map_take, List.take_reverse, List.length_map, hq, show st.length - (st.length - k) = k by omega, List.map_append, List.map_drop]
  rfl
/-- what docOf answers -/
def DocRes (W : World) (r : Option (DocT × Nat)) (e : Ending) (w : World) : Prop :=
  match r with
  | some (d, g) => ∃ D : DocG, D.d = d ∧ e = .returned (.tuple #[D.v, .int .i64 g, .bool true]) ∧ D.Txt W ∧ St W.heap.size W w D.own
  | none => e = .returned (.tuple #[.nilIface, .int .i64 0, .bool false]) ∧ St W.heap.size W w []
theorem maxS {ts : Array TypeId} {t : TypeId} {k : IntKind} {x y : Int} {w : World} {K : Value → World → Prop} (h : K (.int k (if x < y then y else x)) w) : RunS Try.prog (Builtin.max_ ts t #[.int k x, .int k y]) w K := ⟨_, _, run_max_int2 _ ts t k k x y, h⟩
def EO (e : Env) (v5 v6 : Value) (g tot : Int) (pv lst : Value) (n j : Int) : Prop := e 5 = v5 ∧ e 6 = v6 ∧ e 7 = .int .i64 g ∧ e 8 = .int .i64 tot ∧ e 10 = pv ∧ e 26 = lst ∧ e 27 = .int .i64 n ∧ e 28 = .int .i64 j
theorem EO.eq {e : Env} {v5 v6 : Value} {g tot : Int} {pv lst : Value} {n j : Int} {a : Nat} {va : Value} (h : EO e v5 v6 g tot pv lst n j) (ha : e a = va) : e = ((((((((e.put 5 v5).put 6 v6).put 7 (.int .i64 g)).put 8 (.int .i64 tot)).put 10 pv).put 26 lst).put 27 (.int .i64 n)).put 28 (.int .i64 j)).put a va := by
  obtain ⟨h1, h2, h3, h4, h5, h6, h7, h8⟩ := h
  exact Env.nine h1 h2 h3 h4 h5 h6 h7 h8 ha
theorem EO.eq2 {e : Env} {v5 v6 : Value} {g tot : Int} {pv lst : Value} {n j : Int} {a0 a1 : Nat} {b0 b1 : Value} (h : EO e v5 v6 g tot pv lst n j) (k0 : e a0 = b0) (k1 : e a1 = b1) : e = ((((((((((e.put 5 v5).put 6 v6).put 7 (.int .i64 g)).put 8 (.int .i64 tot)).put 10 pv).put 26 lst).put 27 (.int .i64 n)).put 28 (.int .i64 j)).put a0 b0).put a1 b1) := by
  obtain ⟨h1, h2, h3, h4, h5, h6, h7, h8⟩ := h
  rw [Env.put_same h1, Env.put_same h2, Env.put_same h3, Env.put_same h4, Env.put_same h5, Env.put_same h6, Env.put_same h7, Env.put_same h8, Env.put_same k0, Env.put_same k1]
theorem EO.eq4 {e : Env} {v5 v6 : Value} {g tot : Int} {pv lst : Value} {n j : Int} {a0 a1 a2 a3 : Nat} {b0 b1 b2 b3 : Value} (h : EO e v5 v6 g tot pv lst n j) (k0 : e a0 = b0) (k1 : e a1 = b1) (k2 : e a2 = b2) (k3 : e a3 = b3) : e = ((((((((((((e.put 5 v5).put 6 v6).put 7 (.int .i64 g)).put 8 (.int .i64 tot)).put 10 pv).put 26 lst).put 27 (.int .i64 n)).put 28 (.int .i64 j)).put a0 b0).put a1 b1).put a2 b2).put a3 b3) := by
  obtain ⟨h1, h2, h3, h4, h5, h6, h7, h8⟩ := h
  rw [Env.put_same h1, Env.put_same h2, Env.put_same h3, Env.put_same h4, Env.put_same h5, Env.put_same h6, Env.put_same h7, Env.put_same h8, Env.put_same k0, Env.put_same k1, Env.put_same k2, Env.put_same k3]
theorem EO.eq5 {e : Env} {v5 v6 : Value} {g tot : Int} {pv lst : Value} {n j : Int} {a0 a1 a2 a3 a4 : Nat} {b0 b1 b2 b3 b4 : Value} (h : EO e v5 v6 g tot pv lst n j) (k0 : e a0 = b0) (k1 : e a1 = b1) (k2 : e a2 = b2) (k3 : e a3 = b3) (k4 : e a4 = b4) : e = (((((((((((((e.put 5 v5).put 6 v6).put 7 (.int .i64 g)).put 8 (.int .i64 tot)).put 10 pv).put 26 lst).put 27 (.int .i64 n)).put 28 (.int .i64 j)).put a0 b0).put a1 b1).put a2 b2).put a3 b3).put a4 b4) := by
  obtain ⟨h1, h2, h3, h4, h5, h6, h7, h8⟩ := h
  rw [Env.put_same h1, Env.put_same h2, Env.put_same h3, Env.put_same h4, Env.put_same h5, Env.put_same h6, Env.put_same h7, Env.put_same h8, Env.put_same k0, Env.put_same k1, Env.put_same k2, Env.put_same k3, Env.put_same k4]
def StepRes (W w : World) (p : PieceP) (j g : Nat) (st : List Ent) (Gs : List DocG) (R5 R6 : It) (v7 v13 v16 : Value) : Prop :=
  ∃ (g' : Nat) (e' : Ent) (q : List Ent) (D : DocG), stepM p j g st = some (g', e' :: q) ∧ OkPiece p ∧ D.d = e'.d ∧ D.Txt W ∧ v7 = .int .i64 g' ∧ v13 = .int .i64 e'.d.nestD ∧ v16 = D.v ∧ 0 ≤ e'.d.nestD ∧ e'.d.nestD ≤ 8000 ∧ g' ≤ g + 1 ∧ q = st.drop (arK p.kind) ∧ St W.heap.size W w (R5 :: R6 :: (D.own ++ (Gs.drop (arK p.kind)).flatMap DocG.own))
theorem step_leaf {W w : World} {p : PieceP} {j g : Nat} {st : List Ent} {Gs : List DocG} {R5 R6 : It} {Dr : List Int} (hDr : (nvals st).drop (st.length - arK p.kind) = Dr) (ha : arK p.kind = 0) (hop : OkPiece p) {D : DocG} (hD : D.d = leafD p) (hDt : D.Txt W) (H : St W.heap.size W w (R5 :: R6 :: (D.own ++ Gs.flatMap DocG.own))) :
    StepRes W w p j g st Gs R5 R6 (.int .i64 g) (.int .i64 (maxL Dr)) D.v := by
  subst hDr
  have hz := leaf_nest p
  refine ⟨g, ⟨leafD p, j⟩, st, D, by unfold stepM; rw [if_pos ha], hop, hD, hDt, rfl, ?_, rfl, by show 0 ≤ (leafD p).nestD; omega, by show (leafD p).nestD ≤ 8000; omega, by omega, by rw [ha]; rfl, by rw [ha]; exact H⟩
  rw [ha, Nat.sub_zero, nvals_drop0]
  show _ = Value.int .i64 (leafD p).nestD
  rw [hz]; rfl
theorem step_cat {W w : World} {p : PieceP} {j g : Nat} {st : List Ent} {Gs : List DocG} {R5 R6 : It} {Dr : List Int} (hDr : (nvals st).drop (st.length - arK p.kind) = Dr) (hk : p.kind = 6 ∨ p.kind = 9) (hop : OkPiece p) (hnn : ∀ e ∈ st, NnD e.d ∧ e.d.nestD ≤ 4000) {a b : Ent} {q : List Ent} {A B : DocG} {Q : List DocG} (hs : st = a :: b :: q) (hg : Gs = A :: B :: Q) (hA : A.d = a.d) (hB : B.d = b.d) (tA : A.Txt W) (tB : B.Txt W) {t : Nat} {D : DocG} (hDD : D = if p.kind = 6 then DocG.cat t B A else DocG.alt t B A)
    (H : St W.heap.size W w (R5 :: R6 :: (D.own ++ Q.flatMap DocG.own))) :
    StepRes W w p j g st Gs R5 R6 (.int .i64 g) (.int .i64 (maxL Dr)) D.v := by
  subst hDD
  subst hDr
  subst hs hg
  have ar : arK p.kind = 2 := by rcases hk with h | h <;> (rw [h]; rfl)
  have na := hnn a (by simp)
  have nb := hnn b (by simp)
  have a0 := na.1.nonneg
  have b0 := nb.1.nonneg
  refine ⟨g, ⟨if p.kind = 6 then .cat b.d a.d else .alt b.d a.d, b.s⟩, q, if p.kind = 6 then DocG.cat t B A else DocG.alt t B A, ?_, hop, ?_, ?_, rfl, ?_, rfl, ?_, ?_, by omega, by rw [ar]; rfl, by rw [ar]; exact H⟩
  · unfold stepM; rw [if_neg (by omega), if_neg (by omega)]
  · split <;> simp only [DocG.d, hA, hB]
  · split <;> exact ⟨tB, tA⟩
  · rw [ar]
    show Value.int .i64 (maxL ((nvals (a :: b :: q)).drop q.length)) = _
    rw [nvals_drop2]
    congr 1
    show (if (if (0 : Int) < b.d.nestD then b.d.nestD else 0) < a.d.nestD then a.d.nestD else (if (0 : Int) < b.d.nestD then b.d.nestD else 0)) = _
    have e1 : (if p.kind = 6 then DocT.cat b.d a.d else DocT.alt b.d a.d).nestD = max b.d.nestD a.d.nestD := by split <;> rfl
    rw [e1]; (repeat' split) <;> omega
  · split <;> (simp only [DocT.nestD]; omega)
  · split <;> (simp only [DocT.nestD]; omega)
theorem step_nest {W w : World} {p : PieceP} {j g : Nat} {st : List Ent} {Gs : List DocG} {R5 R6 : It} {Dr : List Int} (hDr : (nvals st).drop (st.length - arK p.kind) = Dr) (hk : p.kind = 7) (hn : 0 ≤ p.n ∧ p.n ≤ 4000) (hop : OkPiece p) (hnn : ∀ e ∈ st, NnD e.d ∧ e.d.nestD ≤ 4000) {a : Ent} {q : List Ent} {A : DocG} {Q : List DocG} (hs : st = a :: q) (hg : Gs = A :: Q) (hA : A.d = a.d) (tA : A.Txt W) {t : Nat}
    (H : St W.heap.size W w (R5 :: R6 :: ((DocG.nest t A p.n).own ++ Q.flatMap DocG.own))) :
    StepRes W w p j g st Gs R5 R6 (.int .i64 g) (.int .i64 (maxL Dr + p.n)) (DocG.nest t A p.n).v := by
  subst hDr
  subst hs hg
  have ar : arK p.kind = 1 := by rw [hk]; rfl
  have na := hnn a (by simp)
  have a0 := na.1.nonneg
  refine ⟨g, ⟨.nest a.d p.n, a.s⟩, q, DocG.nest t A p.n, ?_, hop, ?_, tA, rfl, ?_, rfl, ?_, ?_, by omega, by rw [ar]; rfl, by rw [ar]; exact H⟩
  · unfold stepM; rw [if_neg (by omega), if_pos ar]; simp only []; rw [if_pos hk]
  · simp only [DocG.d, hA]
  · rw [ar]
    show Value.int .i64 (maxL ((nvals (a :: q)).drop q.length) + p.n) = _
    rw [nvals_drop1]
    congr 1
    show (if (0 : Int) < a.d.nestD then a.d.nestD else 0) + p.n = _
    simp only [DocT.nestD]; split <;> omega
  · simp only [DocT.nestD]; omega
  · simp only [DocT.nestD]; omega
theorem step_group {W w : World} {p : PieceP} {j g : Nat} {st : List Ent} {Gs : List DocG} {R5 R6 : It} {Dr : List Int} (hDr : (nvals st).drop (st.length - arK p.kind) = Dr) (hk : p.kind = 8) (hop : OkPiece p) (hnn : ∀ e ∈ st, NnD e.d ∧ e.d.nestD ≤ 4000) {a : Ent} {q : List Ent} {A : DocG} {Q : List DocG} (hs : st = a :: q) (hg : Gs = A :: Q) (hA : A.d = a.d) (tA : A.Txt W) {t : Nat}
    (H : St W.heap.size W w (R5 :: R6 :: ((DocG.group t A g).own ++ Q.flatMap DocG.own))) :
    StepRes W w p j g st Gs R5 R6 (.int .i64 (g + 1 : Nat)) (.int .i64 (maxL Dr)) (DocG.group t A g).v := by
  subst hDr
  subst hs hg
  have ar : arK p.kind = 1 := by rw [hk]; rfl
  have na := hnn a (by simp)
  have a0 := na.1.nonneg
  refine ⟨g + 1, ⟨.group a.d g, a.s⟩, q, DocG.group t A g, ?_, hop, ?_, tA, rfl, ?_, rfl, ?_, ?_, by omega, by rw [ar]; rfl, by rw [ar]; exact H⟩
  · unfold stepM; rw [if_neg (by omega), if_pos ar]; simp only []; rw [if_neg (by omega)]
  · simp only [DocG.d, hA]
  · rw [ar]
    show Value.int .i64 (maxL ((nvals (a :: q)).drop q.length)) = _
    rw [nvals_drop1]
    congr 1
    show (if (0 : Int) < a.d.nestD then a.d.nestD else 0) = _
    simp only [DocT.nestD]; split <;> omega
  · exact a0
  · exact Int.le_trans na.2 (by decide)
theorem ok_docOf : callOK Try.prog 89 = true := by kernel_rfl
theorem impl_docOf {fs : List PieceG} {A : Option Addr} {n c : Nat} {W : World} (hx : RdPiece W (.slice A n c) n fs) (hl : n ≤ 4294967296) (hb : ∀ f ∈ fs, byteOK f.text ∧ f.text.length ≤ 4294967296) : Calls Try.prog 89 #[.slice A n c] W (DocRes W (validD (fs.map PieceG.p))) := by
  have H := ((St.enter W).rowNil (e := 3) (sz := 1)).rowNil (e := 102) (sz := 1)
  obtain rfl := hx.len
  obtain ⟨ps, hps⟩ : ∃ ps, fs.map PieceG.p = ps := ⟨_, rfl⟩
  have hpl : ps.length = fs.length := by rw [← hps, List.length_map]
  rw [hps]
  obtain ⟨r, hr⟩ : ∃ r, validD ps = r := ⟨_, rfl⟩
  rw [hr]
  have no : ∀ {w : World} {L : List It}, St W.heap.size W w L → validD ps = none → DocRes W r (.returned (.tuple #[.nilIface, .int .i64 0, .bool false])) w := fun H h => by rw [← hr, h]; exact ⟨rfl, H.none⟩
  refine calls_of_vcV (args := [.slice A fs.length c]) Try.func89 rfl (by kernel_rfl) (Nat.le_of_ble_eq_true rfl) ?_
  refine RegV.mk ?_
  refine gF (fun c1 => ?_) (fun c1 => ?_)
  · refine ifB (fun c2 => ?_) (fun c2 => ?_)
    · exact no H (validD_size (by omega))
    · refine loopW (by kernel_rfl) (fun m e w => e 26 = .slice A fs.length c ∧ e 27 = .int .i64 fs.length ∧ ∃ (j g : Nat) (st : List Ent) (Gs : List DocG) (A5 A6 : Option Addr) (c5 c6 : Nat), e 5 = .slice A5 Gs.length c5 ∧ e 6 = .slice A6 st.length c6 ∧ e 7 = .int .i64 g ∧ e 8 = .int .i64 (totalD (ps.take j)) ∧ e 28 = .int .i64 j ∧ j + m = fs.length ∧ run0 (ps.take j) = some (g, st) ∧ Gs.map DocG.d = st.map Ent.d ∧ (∀ D ∈ Gs, D.Txt W) ∧ (∀ e ∈ st, e.d.nestD ≤ 4000) ∧ (∀ p ∈ ps.take j, OkPiece p) ∧ totalD (ps.take j) ≤ 100000 ∧ g ≤ j ∧ st.length ≤ j ∧
          St W.heap.size W w (.rowD (.slice A5 Gs.length c5) Gs :: .row (.slice A6 st.length c6) 3 1 st.length ((nvals st).map (.int .i64)) :: Gs.flatMap DocG.own))
        (fun id e w => id = 0 ∧ ∃ (g : Nat) (st : List Ent) (Gs : List DocG) (A5 : Option Addr) (c5 : Nat), e 5 = .slice A5 Gs.length c5 ∧ e 7 = .int .i64 g ∧ run0 ps = some (g, st) ∧ Gs.map DocG.d = st.map Ent.d ∧ (∀ D ∈ Gs, D.Txt W) ∧ (∀ e ∈ st, e.d.nestD ≤ 4000) ∧ (∀ p ∈ ps, OkPiece p) ∧ totalD ps ≤ 100000 ∧ st.length ≤ fs.length ∧
          St W.heap.size W w (.rowD (.slice A5 Gs.length c5) Gs :: Gs.flatMap DocG.own)) fs.length
        ⟨rfl, rfl, 0, 0, [], [], none, none, 0, 0, rfl, rfl, rfl, rfl, rfl, by omega, rfl, rfl, by simp, by simp, by simp, Nat.zero_le _, Nat.le_refl _, Nat.le_refl _, H⟩ ?_ ?_
      · rintro m e w ⟨h26, h27, j, g, st, Gs, A5, A6, c5, c6, h5, h6, h7, h8, h28, hj, hrun, hgs, htx, hnd, hok, htot, hgj, hsj, H⟩
        rw [Env.seven h26 h27 h5 h6 h7 h8 h28]
        have hgl : Gs.length = st.length := by have := congrArg List.length hgs; simpa using this
        refine ifB (fun c3 => ?_) (fun c3 => ?_)
        case refine_2 =>
          have hall : ps.take j = ps := List.take_of_length_le (by omega)
          rw [hall] at hrun hok htot
          exact ⟨rfl, g, st, Gs, A5, c5, rfl, rfl, hrun, hgs, htx, hnd, hok, htot, by omega, H.sel (fun q => by simp only [cntL_append, cntL, List.cons_append, List.nil_append, List.set_cons_zero, List.set_cons_succ, List.flatMap_append, List.flatMap_cons, List.flatMap_nil, It.rowF, It.rowB, It.rowI, It.roB, It.roI]; omega)⟩
        obtain ⟨f, hf⟩ : ∃ f, fs[j]? = some f := ⟨_, List.getElem?_eq_getElem (by omega)⟩
        have hfm := List.mem_of_getElem? hf
        have hp := pieces_take hf
        rw [hps] at hp
        have hts := total_snoc hp
        have hsn := run_snoc hp
        rw [hrun] at hsn
        simp only at hsn
        have hbf := hb f hfm
        have hkf := hx.kids f hfm
        have htk : ps.take (j + 1) = ps.take j ++ [f.p] := by rw [List.take_add_one, hp]; rfl
        obtain ⟨A0, ct, e0⟩ := PieceG.shape hkf
        obtain ⟨textV, kind, text, nn⟩ := f
        dsimp only at hf hp hts hsn hbf hkf htk e0
        subst e0
        have hpm := List.mem_of_getElem? hp
        have bad : ∀ {w : World} {L : List It}, St W.heap.size W w L → ¬ OkPiece ⟨kind, text, nn⟩ → DocRes W r (.returned (.tuple #[.nilIface, .int .i64 0, .bool false])) w := fun H h => no H (validD_piece hpm h)
        have hft : totalD (ps.take (j + 1)) = totalD (ps.take j) + text.length := hts
        have hk2 : RdB W (.slice A0 text.length ct) text := hkf
        refine JoinV.mk ?_
        refine idxC (cells := PieceG.cells) PieceG.cells_len (hx.ext H.below).row hf (by omega) fun b off hc => ?_
        refine loadS (v := .int .i64 kind) (hc 0 _ rfl) ?_
        refine loadS (v := .slice A0 text.length ct) (hc 1 _ rfl) ?_
        refine loadS (v := .int .i64 nn) (hc 2 _ rfl) ?_
        refine newR (o := .cells #[.int .i64 0, .slice none 0 0, .int .i64 0] _) H fun g0 w H => ?_
        refine storeO H 0 rfl rfl rfl fun w H => ?_
        refine storeO H 0 rfl rfl rfl fun w H => ?_
        refine storeO H 0 rfl rfl rfl fun w H => ?_
        refine loadO H 0 rfl rfl ?_
        refine ar64 (by omega) (by omega) ?_
        obtain ⟨P, hP⟩ : ∃ P : It, It.obj g0 (.cells #[.int .i64 kind, .slice A0 text.length ct, .int .i64 nn] 96) = P := ⟨_, rfl⟩
        obtain ⟨R5, hR5⟩ : ∃ R5 : It, It.rowD (.slice A5 Gs.length c5) Gs = R5 := ⟨_, rfl⟩
        obtain ⟨R6, hR6⟩ : ∃ R6 : It, It.row (.slice A6 st.length c6) 3 1 st.length ((nvals st).map (.int .i64)) = R6 := ⟨_, rfl⟩
        have H1 : St W.heap.size W w (P :: R5 :: R6 :: Gs.flatMap DocG.own) := by subst hP hR5 hR6; exact H
        have H := H1
        clear H1
        obtain ⟨TT, hTT⟩ : ∃ TT : Int, (totalD (ps.take j) : Int) + (text.length : Int) = TT := ⟨_, rfl⟩
        rw [hTT]
        refine cutG (fun e w => EO e (.slice A5 Gs.length c5) (.slice A6 st.length c6) g TT (.pointer (some ⟨g0, 0, none⟩)) (.slice A fs.length c) fs.length j ∧ e 59 = .bool (decide ((kind ≠ 1 ∧ 0 < text.length) ∨ (kind ≠ 7 ∧ nn ≠ 0) ∨ 100000 < TT)) ∧ St W.heap.size W w (P :: R5 :: R6 :: Gs.flatMap DocG.own)) ?_ ?_
        · subst hP
          refine loadO H 0 rfl rfl ?_
          refine gT (fun c1 => ?_) (fun c1 => ?_)
          · refine loadO H 0 rfl rfl ?_
            refine gF (fun c3 => ?_) (fun c3 => ?_)
            · refine loadO H 0 rfl rfl ?_
              refine gT (fun c5 => ?_) (fun c5 => ?_)
              · refine loadO H 0 rfl rfl ?_
                refine gY ?_
                refine gF (fun c8 => ?_) (fun c8 => ?_)
                · refine ⟨⟨rfl, rfl, rfl, rfl, rfl, rfl, rfl, rfl⟩, congrArg Value.bool ?_, H⟩
                  (rw [Bool.eq_iff_iff]; simp only [decide_eq_true_eq, Bool.false_eq_true, true_iff, iff_true, false_iff, iff_false]; omega)
                · refine ⟨⟨rfl, rfl, rfl, rfl, rfl, rfl, rfl, rfl⟩, congrArg Value.bool ?_, H⟩
                  (rw [Bool.eq_iff_iff]; simp only [decide_eq_true_eq, Bool.false_eq_true, true_iff, iff_true, false_iff, iff_false]; omega)
              · refine gY ?_
                refine gY ?_
                refine ⟨⟨rfl, rfl, rfl, rfl, rfl, rfl, rfl, rfl⟩, congrArg Value.bool ?_, H⟩
                (rw [Bool.eq_iff_iff]; simp only [decide_eq_true_eq, Bool.false_eq_true, true_iff, iff_true, false_iff, iff_false]; omega)
            · refine gNot ?_
              refine gNt ?_
              refine gNf ?_
              refine ⟨⟨rfl, rfl, rfl, rfl, rfl, rfl, rfl, rfl⟩, congrArg Value.bool ?_, H⟩
              (rw [Bool.eq_iff_iff]; simp only [decide_eq_true_eq, Bool.false_eq_true, true_iff, iff_true, false_iff, iff_false]; omega)
          · refine gY ?_
            refine loadO H 0 rfl rfl ?_
            refine gT (fun c16 => ?_) (fun c16 => absurd c16 (by omega))
            refine loadO H 0 rfl rfl ?_
            refine gY ?_
            refine gF (fun c19 => ?_) (fun c19 => ?_)
            · refine ⟨⟨rfl, rfl, rfl, rfl, rfl, rfl, rfl, rfl⟩, congrArg Value.bool ?_, H⟩
              (rw [Bool.eq_iff_iff]; simp only [decide_eq_true_eq, Bool.false_eq_true, true_iff, iff_true, false_iff, iff_false]; omega)
            · refine ⟨⟨rfl, rfl, rfl, rfl, rfl, rfl, rfl, rfl⟩, congrArg Value.bool ?_, H⟩
              (rw [Bool.eq_iff_iff]; simp only [decide_eq_true_eq, Bool.false_eq_true, true_iff, iff_true, false_iff, iff_false]; omega)
        rintro e w ⟨hE, h59, H⟩
        rw [hE.eq h59]
        refine ifB (fun c0 => ?_) (fun c0 => ?_)
        · rcases c0 with ⟨a, b⟩ | ⟨a, b⟩ | a
          · exact bad H (fun q => by have := q.empty a; simp only at this; omega)
          · exact bad H (fun q => b (q.zero a))
          · exact no H (validD_total (j + 1) (by omega))
        have hem : kind ≠ 1 → text.length = 0 := fun h => by rcases Nat.eq_zero_or_pos text.length with q | q; exact q; exact absurd (.inl ⟨h, q⟩) c0
        have hze : kind ≠ 7 → nn = 0 := fun h => by by_cases q : nn = 0; exact q; exact absurd (.inr (.inl ⟨h, q⟩)) c0
        have htt : totalD (ps.take (j + 1)) ≤ 100000 := by
          by_cases q : 100000 < TT
          · exact absurd (.inr (.inr q)) c0
          · omega
        have harl := arK_le kind
        refine joinV (fun e w => EO e (.slice A5 Gs.length c5) (.slice A6 st.length c6) g TT (.pointer (some ⟨g0, 0, none⟩)) (.slice A fs.length c) fs.length j ∧ e 11 = .int .i64 (arK kind) ∧ St W.heap.size W w (P :: R5 :: R6 :: Gs.flatMap DocG.own)) rfl ?_ ?_
        · subst hP
          refine loadO H 0 rfl rfl ?_
          refine JoinV.mk ?_
          refine ifB (fun c2 => ?_) (fun c2 => ?_)
          · refine ifB (fun c3 => ?_) (fun c3 => absurd c3 (by omega))
            refine ⟨⟨rfl, rfl, rfl, rfl, rfl, rfl, rfl, rfl⟩, congrArg (Value.int .i64) ?_, H⟩
            unfold arK
            (repeat' split) <;> omega
          · refine ifB (fun c4 => ?_) (fun c4 => ?_)
            · refine ⟨⟨rfl, rfl, rfl, rfl, rfl, rfl, rfl, rfl⟩, congrArg (Value.int .i64) ?_, H⟩
              unfold arK
              (repeat' split) <;> omega
            · refine JoinV.mk ?_
              refine ifB (fun c6 => ?_) (fun c6 => ?_)
              · refine ifB (fun c7 => ?_) (fun c7 => absurd c7 (by omega))
                refine ⟨⟨rfl, rfl, rfl, rfl, rfl, rfl, rfl, rfl⟩, congrArg (Value.int .i64) ?_, H⟩
                unfold arK
                (repeat' split) <;> omega
              · refine ifB (fun c8 => ?_) (fun c8 => ?_)
                · refine ⟨⟨rfl, rfl, rfl, rfl, rfl, rfl, rfl, rfl⟩, congrArg (Value.int .i64) ?_, H⟩
                  unfold arK
                  (repeat' split) <;> omega
                · refine ⟨⟨rfl, rfl, rfl, rfl, rfl, rfl, rfl, rfl⟩, congrArg (Value.int .i64) ?_, H⟩
                  unfold arK
                  (repeat' split) <;> omega
        rintro e w ⟨hE, h11, H⟩
        rw [hE.eq h11]
        refine ar64 (by omega) (by omega) ?_
        refine ifB (fun c1 => ?_) (fun c1 => ?_)
        · exact no H (validD_run (j + 1) (by rw [hsn]; exact step_none (by show st.length < arK kind; omega)))
        · have hnl := nvals_len st
          have hks : arK kind ≤ st.length := by omega
          have r5 : ∀ {w : World} {L : List It}, St W.heap.size W w L → R5 ∈ L → Rd w (.slice A5 Gs.length c5) 1 Gs.length (dvals Gs) := fun H hm => by rw [← hR5] at hm; exact H.rdm hm rfl
          have q6 : (P :: R5 :: R6 :: Gs.flatMap DocG.own)[2]? = some (.row (.slice A6 st.length c6) 3 1 st.length ((nvals st).map (.int .i64))) := by rw [← hR6]; rfl
          refine CutS.own (sz := 1) (l := st.length - arK kind) (h := st.length) H 2 q6 (by show ((Gs.length : Int) - (arK kind : Int)) = _; omega) rfl (by omega) (Nat.le_refl _) fun A7 hA7 hx7 => ?_
          clear hx7
          obtain ⟨Dr, hDr⟩ : ∃ Dr, (nvals st).drop (st.length - arK kind) = Dr := ⟨_, rfl⟩
          have hcut : ∀ {w : World}, St W.heap.size W w (P :: R5 :: R6 :: Gs.flatMap DocG.own) → Rd w (.slice A7 (st.length - (st.length - arK kind)) (c6 - (st.length - arK kind))) 1 (st.length - (st.length - arK kind)) (Dr.map (.int .i64)) := fun H => by
            have := own_part (H.own 2 q6) (st.length - arK kind) st.length (by omega) (Nat.le_refl _)
            rw [← hA7, Nat.mul_one, Nat.mul_one, List.take_of_length_le (by rw [List.length_map]; omega), ← List.map_drop, hDr] at this
            exact this
          have hdl : Dr.length = arK kind := by rw [← hDr, List.length_drop, hnl]; omega
          have hq : st.length - (st.length - arK kind) = arK kind := by omega
          refine loopW (by kernel_rfl) (fun m e w => EO e (.slice A5 Gs.length c5) (.slice A6 st.length c6) g TT (.pointer (some ⟨g0, 0, none⟩)) (.slice A fs.length c) fs.length j ∧ e 12 = .int .i64 ((Gs.length : Int) - (arK kind : Int)) ∧ e 76 = .slice A7 (st.length - (st.length - arK kind)) (c6 - (st.length - arK kind)) ∧ e 77 = .int .i64 (st.length - (st.length - arK kind) : Nat) ∧ ∃ i : Nat, e 13 = .int .i64 (maxL (Dr.take i)) ∧ e 78 = .int .i64 i ∧ i + m = arK kind ∧ St W.heap.size W w (P :: R5 :: R6 :: Gs.flatMap DocG.own))
            (fun id e w => id = 3 ∧ EO e (.slice A5 Gs.length c5) (.slice A6 st.length c6) g TT (.pointer (some ⟨g0, 0, none⟩)) (.slice A fs.length c) fs.length j ∧ e 12 = .int .i64 ((Gs.length : Int) - (arK kind : Int)) ∧ e 13 = .int .i64 (maxL Dr) ∧ St W.heap.size W w (P :: R5 :: R6 :: Gs.flatMap DocG.own)) (arK kind)
            ⟨⟨rfl, rfl, rfl, rfl, rfl, rfl, rfl, rfl⟩, rfl, rfl, rfl, 0, rfl, rfl, by omega, H⟩ ?_ ?_
          · rintro m e w2 ⟨hE, h12, h76, h77, i, h13, h78, hi, H⟩
            rw [hE.eq5 h12 h76 h77 h13 h78]
            have hx8 := hcut H
            refine ifB (fun c2 => ?_) (fun c2 => ?_)
            · refine idxI hx8 (by omega) (by omega) fun b off hc => ?_
              refine loadS hc ?_
              refine maxS ?_
              refine arN (by omega) ?_
              refine Exists.intro (m - 1) (And.intro (by omega) ⟨⟨rfl, rfl, rfl, rfl, rfl, rfl, rfl, rfl⟩, rfl, rfl, rfl, i + 1, congrArg (Value.int .i64) ?_, rfl, by omega, H⟩)
              have hil : i < Dr.length := by omega
              rw [List.take_add_one, List.getElem?_eq_getElem hil]
              show _ = maxL (Dr.take i ++ [Dr[i]])
              rw [maxL_snoc]
              show (if maxL (Dr.take i) < Dr.getD i 0 then Dr.getD i 0 else maxL (Dr.take i)) = _
              rw [show Dr.getD i 0 = Dr[i] by rw [List.getD_eq_getElem?_getD, List.getElem?_eq_getElem hil]; rfl]
            · exact ⟨rfl, ⟨rfl, rfl, rfl, rfl, rfl, rfl, rfl, rfl⟩, rfl, congrArg (Value.int .i64) (by rw [List.take_of_length_le (by omega)]), H⟩
          · rintro id e w2 ⟨rfl, hE, h12, h13, H⟩
            rw [hE.eq2 h12 h13]
            have hnnd : ∀ e ∈ st, NnD e.d ∧ e.d.nestD ≤ 4000 := fun e he => ⟨(run_nn hok hrun (by simp)).1 e he, hnd e he⟩
            have okk : 0 ≤ kind → kind ≤ 9 → (kind = 1 → 10 ∉ text ∧ 0 ≤ tw text) → (kind = 7 → 0 ≤ nn) → OkPiece ⟨kind, text, nn⟩ := fun a b c d => ⟨⟨a, b⟩, c, hem, d, hze⟩
            refine joinV (fun e w => e 5 = .slice A5 Gs.length c5 ∧ e 6 = .slice A6 st.length c6 ∧ e 8 = .int .i64 TT ∧ e 12 = .int .i64 ((Gs.length : Int) - (arK kind : Int)) ∧ e 26 = .slice A fs.length c ∧ e 27 = .int .i64 fs.length ∧ e 28 = .int .i64 j ∧ StepRes W w ⟨kind, text, nn⟩ j g st Gs R5 R6 (e 7) (e 13) (e 16)) rfl ?_ ?_
            · subst hP
              refine loadO H 0 rfl rfl ?_
              refine ifB (fun c1 => ?_) (fun c1 => ?_)
              · refine RunS.mk ⟨.agg #[], w2, by kernel_rfl, ?_⟩
                refine newR (o := .cells #[] _) H fun g3 w H => ?_
                exact ⟨rfl, rfl, rfl, rfl, rfl, rfl, rfl, step_leaf (p := ⟨kind, text, nn⟩) (D := .nil _) hDr (by subst c1; rfl) (okk (by omega) (by omega) (fun h => by omega) (fun h => by omega)) (by subst c1; rfl) trivial (H.sel (fun q => by simp only [cntL_append, cntL, List.cons_append, List.nil_append, List.set_cons_zero, List.set_cons_succ, List.flatMap_append, List.flatMap_cons, List.flatMap_nil, It.rowB, It.rowI, It.roB, It.roI, DocG.own]; omega))⟩
              · refine ifB (fun c4 => ?_) (fun c4 => ?_)
                · refine loadO H 0 rfl rfl ?_
                  refine callV ok_TextWidth (impl_TextWidth hbf.1 hbf.2 (hk2.ext H.below)) H fun w H => ?_
                  refine RegV.mk ?_
                  refine gF (fun c8 => ?_) (fun c8 => ?_)
                  · refine loadO H 0 rfl rfl ?_
                    refine callV ok_IndexByte (bytes_IndexByte hbf.1 (by decide) (by decide) (hk2.ext H.below)) H fun w H => ?_
                    refine ifB (fun c11 => ?_) (fun c11 => ?_)
                    · exact bad H (fun q => (q.text c4).1 ((idxB_iff text 10).1.1 (by omega)))
                    · refine loadO H 0 rfl rfl ?_
                      refine RunS.mk ⟨.agg #[.slice A0 text.length ct, .int .i64 (cntP (ptsF text text.length 0) 0)], w, by kernel_rfl, ?_⟩
                      refine newR (o := .cells #[.slice A0 text.length ct, .int .i64 (cntP (ptsF text text.length 0) 0)] _) H fun g14 w H => ?_
                      exact ⟨rfl, rfl, rfl, rfl, rfl, rfl, rfl, step_leaf (p := ⟨kind, text, nn⟩) (D := .text _ (.slice A0 text.length ct) text) hDr (by subst c4; rfl) (okk (by omega) (by omega) (fun h => ⟨fun hm => c11 ((idxB_iff text 10).1.2 hm), by unfold tw; omega⟩) (fun h => by omega)) (by subst c4; rfl) hk2 (St.sel (M := R5 :: R6 :: ((DocG.text _ (.slice A0 text.length ct) text).own ++ Gs.flatMap DocG.own)) H (fun q => by simp only [cntL_append, cntL, List.cons_append, List.nil_append, List.set_cons_zero, List.set_cons_succ, List.flatMap_append, List.flatMap_cons, List.flatMap_nil, It.rowB, It.rowI, It.roB, It.roI, DocG.own, tw]; omega))⟩
                  · refine ifT ?_
                    exact bad H (fun q => by have := (q.text c4).2; unfold tw at this; simp only at this; omega)
                · refine JoinV.mk ?_
                  refine ifB (fun c17 => ?_) (fun c17 => ?_)
                  · refine ifB (fun c18 => ?_) (fun c18 => absurd c18 (by omega))
                    refine loadO H 0 rfl rfl ?_
                    refine RunS.mk ⟨.agg #[.int .i64 kind], w2, by kernel_rfl, ?_⟩
                    refine newR (o := .cells #[.int .i64 kind] _) H fun g21 w H => ?_
                    exact ⟨rfl, rfl, rfl, rfl, rfl, rfl, rfl, step_leaf (p := ⟨kind, text, nn⟩) (D := .line _ kind) hDr (by subst c17; rfl) (okk (by omega) (by omega) (fun h => by omega) (fun h => by omega)) (by subst c17; rfl) trivial (H.sel (fun q => by simp only [cntL_append, cntL, List.cons_append, List.nil_append, List.set_cons_zero, List.set_cons_succ, List.flatMap_append, List.flatMap_cons, List.flatMap_nil, It.rowB, It.rowI, It.roB, It.roI, DocG.own]; omega))⟩
                  · refine ifB (fun c22 => ?_) (fun c22 => ?_)
                    · refine ifB (fun c23 => ?_) (fun c23 => absurd c23 (by omega))
                      refine loadO H 0 rfl rfl ?_
                      refine RunS.mk ⟨.agg #[.int .i64 kind], w2, by kernel_rfl, ?_⟩
                      refine newR (o := .cells #[.int .i64 kind] _) H fun g26 w H => ?_
                      exact ⟨rfl, rfl, rfl, rfl, rfl, rfl, rfl, step_leaf (p := ⟨kind, text, nn⟩) (D := .line _ kind) hDr (by subst c22; rfl) (okk (by omega) (by omega) (fun h => by omega) (fun h => by omega)) (by subst c22; rfl) trivial (H.sel (fun q => by simp only [cntL_append, cntL, List.cons_append, List.nil_append, List.set_cons_zero, List.set_cons_succ, List.flatMap_append, List.flatMap_cons, List.flatMap_nil, It.rowB, It.rowI, It.roB, It.roI, DocG.own]; omega))⟩
                    · refine ifB (fun c27 => ?_) (fun c27 => ?_)
                      · refine ifB (fun c28 => ?_) (fun c28 => absurd c28 (by omega))
                        refine loadO H 0 rfl rfl ?_
                        refine RunS.mk ⟨.agg #[.int .i64 kind], w2, by kernel_rfl, ?_⟩
                        refine newR (o := .cells #[.int .i64 kind] _) H fun g31 w H => ?_
                        exact ⟨rfl, rfl, rfl, rfl, rfl, rfl, rfl, step_leaf (p := ⟨kind, text, nn⟩) (D := .line _ kind) hDr (by subst c27; rfl) (okk (by omega) (by omega) (fun h => by omega) (fun h => by omega)) (by subst c27; rfl) trivial (H.sel (fun q => by simp only [cntL_append, cntL, List.cons_append, List.nil_append, List.set_cons_zero, List.set_cons_succ, List.flatMap_append, List.flatMap_cons, List.flatMap_nil, It.rowB, It.rowI, It.roB, It.roI, DocG.own]; omega))⟩
                      · refine ifB (fun c32 => ?_) (fun c32 => ?_)
                        · refine loadO H 0 rfl rfl ?_
                          refine RunS.mk ⟨.agg #[.int .i64 kind], w2, by kernel_rfl, ?_⟩
                          refine newR (o := .cells #[.int .i64 kind] _) H fun g35 w H => ?_
                          exact ⟨rfl, rfl, rfl, rfl, rfl, rfl, rfl, step_leaf (p := ⟨kind, text, nn⟩) (D := .line _ kind) hDr (by subst c32; rfl) (okk (by omega) (by omega) (fun h => by omega) (fun h => by omega)) (by subst c32; rfl) trivial (H.sel (fun q => by simp only [cntL_append, cntL, List.cons_append, List.nil_append, List.set_cons_zero, List.set_cons_succ, List.flatMap_append, List.flatMap_cons, List.flatMap_nil, It.rowB, It.rowI, It.roB, It.roI, DocG.own]; omega))⟩
                        · refine ifB (fun c36 => ?_) (fun c36 => ?_)
                          · refine drawR H fun w H => ?_
                            have ar2 : arK kind = 2 := by rw [c36]; rfl
                            obtain ⟨A, B, Q, a, b, q, hg, hs, hA, hB, hQ⟩ := twoG_of hgs (by omega)
                            have hgl2 : Gs.length = Q.length + 2 := by rw [hg]; rfl
                            have dg := dvals_get2 A B Q
                            rw [← hg] at dg
                            refine idxV Q.length (by omega) (r5 H (by simp)) dg.1 (by omega) fun b1 off1 hc1 => ?_
                            refine loadS hc1 ?_
                            refine ar64 (by omega) (by omega) ?_
                            refine idxV (Q.length + 1) (by omega) (r5 H (by simp)) dg.2 (by omega) fun b2 off2 hc2 => ?_
                            refine loadS hc2 ?_
                            refine RunS.mk ⟨_, w, bTwo A B w, ?_⟩
                            refine RunS.mk ⟨_, w, bCat A B w, ?_⟩
                            refine newR H fun g0 w H => ?_
                            have hgf : Gs.flatMap DocG.own = A.own ++ (B.own ++ Q.flatMap DocG.own) := by rw [hg]; rfl
                            rw [hgf] at H
                            have H1 : St W.heap.size W w (.obj g0 (.cells #[B.v, A.v] 164) :: .obj _ (.cells #[.int .i64 kind, .slice A0 text.length ct, .int .i64 nn] 96) :: R5 :: R6 :: (A.own ++ (B.own ++ Q.flatMap DocG.own))) := H
                            have H := H1
                            exact ⟨rfl, rfl, rfl, rfl, rfl, rfl, rfl, step_cat (p := ⟨kind, text, nn⟩) (D := .cat _ B A) hDr (.inl c36) (okk (by omega) (by omega) (fun h => by omega) (fun h => by omega)) hnnd hs hg hA hB (htx A (by rw [hg]; simp)) (htx B (by rw [hg]; simp)) (by rw [if_pos (c36 : kind = 6)]) (H.sel (fun q => by simp only [cntL_append, cntL, List.cons_append, List.nil_append, List.set_cons_zero, List.set_cons_succ, List.flatMap_append, List.flatMap_cons, List.flatMap_nil, It.rowB, It.rowI, It.roB, It.roI, DocG.own]; omega))⟩
                          · refine ifB (fun c38 => ?_) (fun c38 => ?_)
                            · refine drawR H fun w H => ?_
                              have ar2 : arK kind = 2 := by rw [c38]; rfl
                              obtain ⟨A, B, Q, a, b, q, hg, hs, hA, hB, hQ⟩ := twoG_of hgs (by omega)
                              have hgl2 : Gs.length = Q.length + 2 := by rw [hg]; rfl
                              have dg := dvals_get2 A B Q
                              rw [← hg] at dg
                              refine idxV Q.length (by omega) (r5 H (by simp)) dg.1 (by omega) fun b1 off1 hc1 => ?_
                              refine loadS hc1 ?_
                              refine ar64 (by omega) (by omega) ?_
                              refine idxV (Q.length + 1) (by omega) (r5 H (by simp)) dg.2 (by omega) fun b2 off2 hc2 => ?_
                              refine loadS hc2 ?_
                              refine RunS.mk ⟨_, w, bTwo A B w, ?_⟩
                              refine RunS.mk ⟨_, w, bAlt A B w, ?_⟩
                              refine newR H fun g0 w H => ?_
                              have hgf : Gs.flatMap DocG.own = A.own ++ (B.own ++ Q.flatMap DocG.own) := by rw [hg]; rfl
                              rw [hgf] at H
                              have H1 : St W.heap.size W w (.obj g0 (.cells #[B.v, A.v] 166) :: .obj _ (.cells #[.int .i64 kind, .slice A0 text.length ct, .int .i64 nn] 96) :: R5 :: R6 :: (A.own ++ (B.own ++ Q.flatMap DocG.own))) := H
                              have H := H1
                              exact ⟨rfl, rfl, rfl, rfl, rfl, rfl, rfl, step_cat (p := ⟨kind, text, nn⟩) (D := .alt _ B A) hDr (.inr c38) (okk (by omega) (by omega) (fun h => by omega) (fun h => by omega)) hnnd hs hg hA hB (htx A (by rw [hg]; simp)) (htx B (by rw [hg]; simp)) (by rw [if_neg (show ¬ kind = 6 by omega)]) (H.sel (fun q => by simp only [cntL_append, cntL, List.cons_append, List.nil_append, List.set_cons_zero, List.set_cons_succ, List.flatMap_append, List.flatMap_cons, List.flatMap_nil, It.rowB, It.rowI, It.roB, It.roI, DocG.own]; omega))⟩
                            · refine ifB (fun c40 => ?_) (fun c40 => ?_)
                              · refine RegV.mk ?_
                                refine loadO H 0 rfl rfl ?_
                                refine gF (fun c43 => ?_) (fun c43 => ?_)
                                · refine loadO H 0 rfl rfl ?_
                                  refine ifB (fun c45 => ?_) (fun c45 => ?_)
                                  · obtain ⟨A, Q, a, q, hg, hs, hA, hQ⟩ := oneG_of hgs (by rw [c40] at hks; exact hks)
                                    have hst2 : run0 (ps.take (j + 1)) = some (g, ⟨.nest a.d nn, a.s⟩ :: q) := by
                                      rw [hsn, hs]
                                      show stepM ⟨kind, text, nn⟩ j g (a :: q) = _
                                      unfold stepM
                                      rw [if_neg (by rw [show (PieceP.mk kind text nn).kind = 7 from c40]; decide), if_pos (by rw [show (PieceP.mk kind text nn).kind = 7 from c40]; rfl)]
                                      simp only []
                                      rw [if_pos c40]
                                    have na := (hnnd a (by rw [hs]; simp)).1.nonneg
                                    exact no H (validD_deep hst2 (e := ⟨.nest a.d nn, a.s⟩) (by simp) (by show 4000 < nn + a.d.nestD; omega))
                                  · refine loadO H 0 rfl rfl ?_
                                    have ar2 : arK kind = 1 := by rw [c40]; rfl
                                    obtain ⟨A, Q, a, q, hg, hs, hA, hQ⟩ := oneG_of hgs (by omega)
                                    have hgl2 : Gs.length = Q.length + 1 := by rw [hg]; rfl
                                    have dg := dvals_get1 A Q
                                    rw [← hg] at dg
                                    have na := hnnd a (by rw [hs]; simp)
                                    have na0 := na.1.nonneg
                                    have hM : maxL Dr = a.d.nestD := by
                                      rw [← hDr, hs, ar2]
                                      show maxL ((nvals (a :: q)).drop q.length) = _
                                      rw [nvals_drop1]
                                      show (if (0 : Int) < a.d.nestD then a.d.nestD else 0) = _
                                      split <;> omega
                                    refine ar64 (by omega) (by omega) ?_
                                    refine regG [4, 7, 8, 9] [4] [3, 6] [0, 1, 2, 3, 5, 6, 4, 7, 8, 9, 10] (by kernel_rfl) ?_
                                    (refine drawR H fun w H => ?_; have hw := HeldW.refl w)
                                    refine idxV Q.length (by omega) (r5 H (by simp)) dg (by omega) fun b1 off1 hc1 => ?_
                                    refine loadS hc1 ?_
                                    refine loadO H 0 rfl rfl ?_
                                    refine RunS.mk ⟨_, _, bOne A _, ?_⟩
                                    refine KeepS.mk ⟨HeldW.refl _, ?_⟩
                                    refine RunS.mk ⟨_, _, bNest A nn _, ?_⟩
                                    refine newR (o := .cells #[A.v, .int .i64 nn] _) H fun gg w H => ?_
                                    have hgf : Gs.flatMap DocG.own = A.own ++ Q.flatMap DocG.own := by rw [hg]; rfl
                                    rw [hgf] at H
                                    have H1 : St W.heap.size W w (.obj gg (.cells #[A.v, .int .i64 nn] 169) :: .obj _ (.cells #[.int .i64 kind, .slice A0 text.length ct, .int .i64 nn] 96) :: R5 :: R6 :: (A.own ++ Q.flatMap DocG.own)) := H
                                    have H := H1
                                    exact ⟨rfl, rfl, rfl, rfl, rfl, rfl, rfl, step_nest (p := ⟨kind, text, nn⟩) hDr c40 ⟨by show 0 ≤ nn; omega, by show nn ≤ 4000; omega⟩ (okk (by omega) (by omega) (fun h => by omega) (fun h => by omega)) hnnd hs hg hA (htx A (by rw [hg]; simp)) (H.sel (fun q => by simp only [cntL_append, cntL, List.cons_append, List.nil_append, List.set_cons_zero, List.set_cons_succ, List.flatMap_append, List.flatMap_cons, List.flatMap_nil, It.rowB, It.rowI, It.roB, It.roI, DocG.own]; omega))⟩
                                · refine ifT ?_
                                  exact bad H (fun q => by have := q.nest c40; simp only at this; omega)
                              · refine ifB (fun c48 => ?_) (fun c48 => ?_)
                                · have ar2 : arK kind = 1 := by rw [c48]; rfl
                                  obtain ⟨A, Q, a, q, hg, hs, hA, hQ⟩ := oneG_of hgs (by omega)
                                  have hgl2 : Gs.length = Q.length + 1 := by rw [hg]; rfl
                                  have dg := dvals_get1 A Q
                                  rw [← hg] at dg
                                  refine idxV Q.length (by omega) (r5 H (by simp)) dg (by omega) fun b1 off1 hc1 => ?_
                                  refine loadS hc1 ?_
                                  refine RunS.mk ⟨_, _, bOne A _, ?_⟩
                                  refine RunS.mk ⟨_, _, bGroup A g _, ?_⟩
                                  refine newR (o := .cells #[A.v, .int .i64 g] _) H fun gg w H => ?_
                                  refine arN (by omega) ?_
                                  have hgf : Gs.flatMap DocG.own = A.own ++ Q.flatMap DocG.own := by rw [hg]; rfl
                                  rw [hgf] at H
                                  have H1 : St W.heap.size W w (.obj gg (.cells #[A.v, .int .i64 g] 119) :: .obj _ (.cells #[.int .i64 kind, .slice A0 text.length ct, .int .i64 nn] 96) :: R5 :: R6 :: (A.own ++ Q.flatMap DocG.own)) := H
                                  have H := H1
                                  exact ⟨rfl, rfl, rfl, rfl, rfl, rfl, rfl, step_group (p := ⟨kind, text, nn⟩) hDr c48 (okk (by omega) (by omega) (fun h => by omega) (fun h => by omega)) hnnd hs hg hA (htx A (by rw [hg]; simp)) (H.sel (fun q => by simp only [cntL_append, cntL, List.cons_append, List.nil_append, List.set_cons_zero, List.set_cons_succ, List.flatMap_append, List.flatMap_cons, List.flatMap_nil, It.rowB, It.rowI, It.roB, It.roI, DocG.own]; omega))⟩
                                · exact bad H (fun q => by have := q.kind; simp only at this; omega)
            · rintro e w3 ⟨h5, h6, h8, h12, h26, h27, h28, g', e', q, D, hst, hop, hD, hDt, h7, h13, h16, hn0, hn1, hg1, hq2, H⟩
              rw [Env.ten h5 h6 h8 h12 h26 h27 h28 h7 h13 h16]
              have hst2 : run0 (ps.take (j + 1)) = some (g', e' :: q) := hsn.trans hst
              refine ifB (fun c4 => ?_) (fun c4 => ?_)
              · exact no H (validD_deep hst2 (e := e') (by simp) (by omega))
              have hql : q.length = st.length - arK kind := by rw [hq2, List.length_drop]
              have hGl : (Gs.drop (arK kind)).length = q.length := by rw [List.length_drop, hql]; omega
              refine cutReg (fun e w => e 26 = .slice A fs.length c ∧ e 27 = .int .i64 fs.length ∧ e 28 = .int .i64 j ∧ e 7 = .int .i64 g' ∧ e 8 = .int .i64 TT ∧ ∃ A8 c8 A9 c9, e 5 = .slice A8 (q.length + 1) c8 ∧ e 6 = .slice A9 (q.length + 1) c9 ∧ St W.heap.size W w (.row (.slice A8 (q.length + 1) c8) 102 1 (q.length + 1) (((dvals Gs).take (q.length * 1)) ++ [D.v]) :: .row (.slice A9 (q.length + 1) c9) 3 1 (q.length + 1) ((((nvals st).map (Value.int .i64)).take (q.length * 1)) ++ [e'.d.nestD].map (Value.int .i64)) :: (D.own ++ (Gs.drop (arK kind)).flatMap DocG.own))) ?_ ?_
              · subst hR5 hR6
                obtain ⟨tD, vD, eD⟩ := D.v_if
                have hco : ∀ u ∈ [D.v], u.oneCell' = true := fun u hu => by rw [List.mem_singleton.1 hu, eD]; rfl
                have hci : ∀ u ∈ [e'.d.nestD].map (Value.int .i64), u.oneCell' = true := fun u hu => by rw [List.mem_singleton.1 hu]; rfl
                refine regT [4, 5, 10, 11] [] [] (PT.of [0, 1, 2, 3, 6, 7, 8, 9] (.fork (PT.of [4] (.fork (PT.of [5, 10, 11, 12, 13] .nil) (PT.of [10, 5, 11, 12, 13] .nil))) (PT.of [10, 4, 5, 11, 12, 13] .nil))) (by kernel_rfl) ?_
                refine drawR H fun w H => ?_
                refine cutRow (sz := 1) (h := q.length) H 0 rfl rfl (by show ((Gs.length : Int) - (arK kind : Int)) = _; omega) (by omega) fun H => ?_
                refine cutRow (sz := 1) (h := q.length) H 1 rfl rfl (by show ((Gs.length : Int) - (arK kind : Int)) = _; omega) (by omega) fun H => ?_
                refine ForkS.mk ⟨?_, ?_⟩
                · refine litRB (e := 102) (sz := 1) (n := 1) (cs := [D.v]) H rfl (by decide) (bsDoc D w) fun A10 c10 w hB H => ?_
                  refine ForkS.mk ⟨?_, ?_⟩
                  · refine appRS undDocs infDoc rfl (by decide) (by decide) H 1 rfl (H.rd 0 rfl) hco (by omega) fun A8 c8 w H => ?_
                    refine litI1 H fun v11 w H => ?_
                    refine appRS (n := q.length) (m := 1) undI infI rfl (by decide) (by decide) H 3 rfl (H.rd 0 rfl) hci (by omega) fun A9 c9 w H => ?_
                    exact ⟨rfl, rfl, rfl, rfl, rfl, A8, c8, A9, c9, rfl, rfl, H.sel (fun q => by simp only [cntL_append, cntL, List.cons_append, List.nil_append, List.set_cons_zero, List.set_cons_succ, List.flatMap_append, List.flatMap_cons, List.flatMap_nil, It.rowB, It.rowI, It.roB, It.roI, ]; omega)⟩
                  · refine litI1 H fun v11 w H => ?_
                    refine appRS undDocs infDoc rfl (by decide) (by decide) H 2 rfl (H.rd 1 rfl) hco (by omega) fun A8 c8 w H => ?_
                    refine appRS (n := q.length) (m := 1) undI infI rfl (by decide) (by decide) H 3 rfl (H.rd 0 rfl) hci (by omega) fun A9 c9 w H => ?_
                    exact ⟨rfl, rfl, rfl, rfl, rfl, A8, c8, A9, c9, rfl, rfl, H.sel (fun q => by simp only [cntL_append, cntL, List.cons_append, List.nil_append, List.set_cons_zero, List.set_cons_succ, List.flatMap_append, List.flatMap_cons, List.flatMap_nil, It.rowB, It.rowI, It.roB, It.roI, ]; omega)⟩
                · refine litI1 H fun v11 w H => ?_
                  refine litRB (e := 102) (sz := 1) (n := 1) (cs := [D.v]) H rfl (by decide) (bsDoc D w) fun A10 c10 w hB H => ?_
                  refine appRS undDocs infDoc rfl (by decide) (by decide) H 2 rfl (H.rd 0 rfl) hco (by omega) fun A8 c8 w H => ?_
                  refine appRS (n := q.length) (m := 1) undI infI rfl (by decide) (by decide) H 3 rfl (H.rd 1 rfl) hci (by omega) fun A9 c9 w H => ?_
                  exact ⟨rfl, rfl, rfl, rfl, rfl, A8, c8, A9, c9, rfl, rfl, H.sel (fun q => by simp only [cntL_append, cntL, List.cons_append, List.nil_append, List.set_cons_zero, List.set_cons_succ, List.flatMap_append, List.flatMap_cons, List.flatMap_nil, It.rowB, It.rowI, It.roB, It.roI, ]; omega)⟩
              · rintro e w4 ⟨h26, h27, h28, h7, h8, A8, c8, A9, c9, h5, h6, H⟩
                rw [Env.seven h26 h27 h5 h6 h7 h8 h28]
                refine arN (by omega) ?_
                have hl1 : q.length + 1 = (D :: Gs.drop (arK kind)).length := by rw [List.length_cons, hGl]
                have hl2 : q.length + 1 = (e' :: st.drop (arK kind)).length := by rw [List.length_cons, ← hq2]
                rw [dvals_step Gs (arK kind) q.length (by omega) (by omega), nvals_step st (arK kind) q.length hks hql] at H
                have H1 : St W.heap.size W w4 (.row (.slice A8 (q.length + 1) c8) 102 1 (q.length + 1) (dvals (D :: Gs.drop (arK kind))) :: .row (.slice A9 (q.length + 1) c9) 3 1 (q.length + 1) ((nvals (e' :: st.drop (arK kind))).map (.int .i64)) :: (D :: Gs.drop (arK kind)).flatMap DocG.own) := H
                have e5 : Value.slice A8 (q.length + 1) c8 = .slice A8 (D :: Gs.drop (arK kind)).length c8 := by rw [hl1]
                have e6 : Value.slice A9 (q.length + 1) c9 = .slice A9 (e' :: st.drop (arK kind)).length c9 := by rw [hl2]
                have HA : St W.heap.size W w4 (.rowD (.slice A8 (D :: Gs.drop (arK kind)).length c8) (D :: Gs.drop (arK kind)) :: .row (.slice A9 (e' :: st.drop (arK kind)).length c9) 3 1 (e' :: st.drop (arK kind)).length ((nvals (e' :: st.drop (arK kind))).map (.int .i64)) :: (D :: Gs.drop (arK kind)).flatMap DocG.own) := by
                  rw [← e5, ← e6, ← hl2]; unfold It.rowD; rw [← hl1]; exact H1
                have hmd : (D :: Gs.drop (arK kind)).map DocG.d = (e' :: st.drop (arK kind)).map Ent.d := by
                  rw [List.map_cons, List.map_cons, hD, List.map_drop, hgs, List.map_drop]
                refine Exists.intro (m - 1) (And.intro (by omega) ⟨rfl, rfl, j + 1, g', e' :: st.drop (arK kind), D :: Gs.drop (arK kind), A8, A9, c8, c9, e5, e6, rfl, congrArg (Value.int .i64) (by omega), rfl, by omega, by rw [← hq2]; exact hst2, hmd, ?_, ?_, ?_, htt, by omega, ?_, HA⟩)
                · intro x hx; rcases List.mem_cons.1 hx with rfl | h; exact hDt; exact htx x (List.mem_of_mem_drop h)
                · intro x hx; rcases List.mem_cons.1 hx with rfl | h; omega; exact hnd x (List.mem_of_mem_drop h)
                · intro x hx; rw [htk] at hx; rcases List.mem_append.1 hx with h | h; exact hok x h; exact List.mem_singleton.1 h ▸ hop
                · rw [List.length_cons, ← hq2]; omega
      · rintro id e w ⟨rfl, g, st, Gs, A5, c5, h5, h7, hrun, hgs, htx, hnd, hok, htot, hsl, H⟩
        rw [Env.two h5 h7]
        have hgl : Gs.length = st.length := by have := congrArg List.length hgs; simpa using this
        refine ifB (fun c0 => ?_) (fun c0 => ?_)
        · exact no H (validD_len hrun (by omega))
        · obtain ⟨D, rfl⟩ : ∃ D, Gs = [D] := List.length_eq_one_iff.1 (by omega)
          obtain ⟨e1, rfl⟩ : ∃ e1, st = [e1] := List.length_eq_one_iff.1 (by omega)
          have hd : D.d = e1.d := by simpa using hgs
          have hv := validD_some (by omega) hok htot hrun (hnd e1 (by simp))
          rw [hr] at hv
          subst hv
          refine idxV 0 rfl (H.rd 0 rfl) (v := D.v) rfl (by show 0 < 1; decide) fun b off hc => ?_
          refine loadS hc ?_
          refine ⟨D, hd, rfl, htx D (by simp), ?_⟩
          have H2 := H.tl
          rw [List.flatMap_cons, List.flatMap_nil, List.append_nil] at H2
          exact H2
  · refine ifT ?_
    exact no H (validD_size (by omega))
end Go.Proofs.YtfhpgfbakimmhaaE
