/- A range over a function, for the engine: the statement, its rounds, and the function that holds it. No condition of the laws stands here. -/
import Derived.Test.YtjdgcgmhbhfpkaaDoorEngI
namespace Go.Proofs.YtjdgcgmhbhfpkaaDoorE
open Go Go.RowKit
set_option linter.unusedVariables false
set_option maxRecDepth 100000
set_option linter.unusedSimpArgs false

abbrev opV (P : Program) : OpW := fun o e w K X => vopV P o e w K X
theorem soundV (P : Program) (ro : Option Nat) (n : Nat) : SoundV (opV P) ro n P := fun o a e w K X hd he h => goodI_of hd (vop_sound he (by rw [← vopV_eq]; exact h))
theorem monoV (P : Program) : MonoV (opV P) := fun o e w K K' X X' hk hx h => by
  show vopV P o e w K' X'
  have h : vopV P o e w K X := h
  rw [vopV_eq] at h ⊢
  exact vop_mono hk hx h
abbrev markOf (r : Nat) : Deferred := { target := .collected r, args := #[] }
abbrev recOf (st : LoopState) (pend : Option Code) (fn : FuncId) (tmps : Array Value) (ps : Array Tmp) (as bd : Code) (d : Nat) : Obj := .loop { state := st, pending := pend, fn, tmps, params := ps, assign := as, body := bd, defers := d }
/-- what is asked where the statement stands -/
def RangeP (P : Program) (N : Nat) (g : Operand) (ps : Array Tmp) (as bd : Code) (K : Nat → Exit → Env → World → Prop) (e : Env) (w : World) : Prop :=
  ∃ f captured, ev e g = .func (.func f) #[] captured ∧ callOK P f = true ∧ ∀ fn tmps, RelI [] N e ⟨tmps, []⟩ →
    Calls P f (#[.func (.yield (w.heap.size + 1)) #[] #[]] ++ captured) ((w.alloc (.deferred (some []))).alloc (recOf .ready none fn tmps ps as bd w.heap.size)) fun e3 w3 =>
      ∃ v jump w4, e3 = .returned v ∧ (Instr.endLoop (w.heap.size + 1)).run P w3 = .ok jump w4 ∧ (match jump with | none => K w.heap.size .normal e w4 | some c => c = .ret ∧ K w.heap.size .ret e w4)
theorem range_sound {P : Program} {N n : Nat} {g : Operand} {ps : Array Tmp} {as bd : Code} {K : Nat → Exit → Env → World → Prop} {e : Env} {w : World} {a : Act} (hr : RelI [] N e a) (h : RangeP P N g ps as bd K e w) :
    (Code.rangeFunc g ps as bd).wpIn (FW none) n P (fun ex a' w' => ∃ e', RelI [markOf w.heap.size] N e' a' ∧ K w.heap.size ex e' w') a w := by
  obtain ⟨f, captured, hg, hok, h⟩ := h
  have ha : a = ⟨a.tmps, []⟩ := by obtain ⟨t, d⟩ := a; have := hr.1; simp only at this; subst this; rfl
  refine wpIn_rangeFunc fun fn _ => ?_
  have hc := h fn a.tmps (ha ▸ hr)
  have hev : a.eval g = .func (.func f) #[] captured := by rw [hr.eval]; exact hg
  obtain ⟨W1, hW1⟩ : ∃ W1, (w.alloc (.deferred (some []))).alloc (recOf .ready none fn a.tmps ps as bd w.heap.size) = W1 := ⟨_, rfl⟩
  rw [hW1] at hc
  have hent : (Instr.enterLoop fn a.tmps ps as bd none).run P w = .ok (w.heap.size + 1, [markOf w.heap.size]) W1 := by rw [← hW1]; exact run_enterLoop_outer fn a.tmps ps as bd
  refine ⟨w.heap.size + 1, [markOf w.heap.size], W1, ⟨.fn (.func f) captured, #[.func (.yield (w.heap.size + 1)) #[] #[]]⟩, W1, f, #[.func (.yield (w.heap.size + 1)) #[] #[]] ++ captured, W1, hent, ?_, fun _ _ => trivial, ?_, (fun q => by cases q), ?_⟩
  · have e1 : ((#[] : Array Value) ++ Array.map a.eval #[Operand.const (.func (.yield (w.heap.size + 1)) #[] #[])]) = #[.func (.yield (w.heap.size + 1)) #[] #[]] := by simp; rfl
    simp only [resolve, rangeCall, Sem.run_pure, hev, Deferred.ofValue, e1]
  · simp only [invoke]
    exact callFunc_run _ hok
  · refine callsIn_any (ro := none) (hc.mono fun e3 w3 q => ?_)
    obtain ⟨v, jump, w4, rfl, he, hk⟩ := q
    have hr' : RelI [markOf w.heap.size] N e { a with defers := [markOf w.heap.size] ++ a.defers } := ⟨by rw [hr.1]; rfl, hr.2.1, hr.2.2⟩
    refine ⟨jump, w4, he, ?_⟩
    cases jump with
    | none => exact ⟨e, hr', hk⟩
    | some c =>
      obtain ⟨rfl, hk⟩ := hk
      exact wpIn_ret ⟨e, hr', hk⟩
/-- where the function ends -/
def retM (P : Program) (fn : Func) (R : Ending → World → Prop) (r : Nat) : Exit → Env → World → Prop
  | .normal, e, w | .ret, e, w => ∃ w', (Instr.takeDeferred r).run P w = .ok [] w' ∧ ∃ v, (∀ tmps : Array Value, (∀ i, tmps.getD i undef = e i) → (results fn tmps).run P w' = .ok v w') ∧ R (.returned v) w'
  | _, _, _ => False
theorem calls_of_range {P : Program} {f : FuncId} {fn : Func} {A0 A1 A2 C : Code} {id : Nat} {g : Operand} {ps : Array Tmp} {as bd : Code} {args : List Value} {w : World} {R : Ending → World → Prop} (hf : P.funcs[f]? = some fn)
    (hb : fn.body = some (.seq A0 (.seq A1 (.seq (.seq A2 (.block id (.rangeFunc g ps as bd))) C)))) (hok : (codeOKI fn.ntmps (.seq A0 (.seq A1 A2)) && codeOKI fn.ntmps C) = true) (hargs : args.length ≤ fn.ntmps)
    (h : vcI [] fn.ntmps none 0 P (opV P) (.seq A0 (.seq A1 A2)) (fun ex e w => ex = .normal ∧ RangeP P fn.ntmps g ps as bd (fun r ex e w => match ex with | .normal => vcI [markOf r] fn.ntmps none 0 P (opV P) C (retM P fn R r) e w | .ret => retM P fn R r .ret e w | _ => False) e w) (start args) w) : Calls P f args.toArray w R := by
  rw [Bool.and_eq_true] at hok
  have ho1 := hok.1
  simp only [codeOKI, Bool.and_eq_true] at ho1
  have hm : ∀ r ex e w a, RelI [markOf r] fn.ntmps e a → retM P fn R r ex e w → bodyPostM (FW none) 0 P fn R ex a w := by
    intro r ex e w a hr hk
    have fin : retM P fn R r .normal e w → LeavesInM (FW none) 0 P fn a.tmps R a.defers .returning w := by
      rintro ⟨w', ht, v, hv, hR⟩
      rw [hr.1]
      exact ⟨by simp, .inl ⟨r, w', rfl, ht, v, hv _ hr.2.2, hR⟩⟩
    cases ex <;> first | exact fin hk | exact hk.elim
  refine callsIn_wide.1 (callsIn_of_wp_marks (F := FW none) (n := 0) hf hb trivial ?_)
  have h0 : RelI [] fn.ntmps (start args) { tmps := args.toArray ++ Array.replicate (fn.ntmps - args.toArray.size) undef, defers := [] } := by
    refine ⟨rfl, by simp; omega, fun i => ?_⟩
    rw [start_eq, Array.getD_eq_getD_getElem?, Array.getElem?_append]
    by_cases hi : i < args.length
    · simp [hi]
    · simp only [List.size_toArray, hi, if_false, Array.getElem?_replicate]
      rw [List.getElem?_eq_none (by omega)]
      split <;> rfl
  refine wpIn_seq (wpIn_mono (vcI_sound (soundV P none 0) A0 _ _ _ _ ho1.1 h h0) ?_)
  rintro ex a1 w1 ⟨e1, r1, h1⟩
  have hx : ex = .normal := by cases ex <;> first | rfl | exact h1.1
  subst hx
  refine wpIn_seq (wpIn_mono (vcI_sound (soundV P none 0) A1 _ _ _ _ ho1.2.1 h1 r1) ?_)
  rintro ex a2 w2 ⟨e2, r2, h2⟩
  have hx : ex = .normal := by cases ex <;> first | rfl | exact h2.1
  subst hx
  refine wpIn_seq (wpIn_seq (wpIn_mono (vcI_sound (soundV P none 0) A2 _ _ _ _ ho1.2.2 h2 r2) ?_))
  rintro ex a3 w3 ⟨e3, r3, h3⟩
  have hx : ex = .normal := by cases ex <;> first | rfl | exact h3.1
  subst hx
  refine wpIn_block (wpIn_mono (range_sound r3 h3.2) ?_)
  rintro ex a4 w4 ⟨e4, r4, h4⟩
  cases ex with
  | normal => exact wpIn_mono (vcI_sound (soundV P none 0) C _ _ _ _ hok.2 h4 r4) fun ex a5 w5 ⟨e5, r5, h5⟩ => hm _ _ _ _ _ r5 h5
  | ret => exact hm _ _ _ _ _ r4 h4
  | _ => exact h4.elim
/-! ## rounds -/
def roundK (P : Program) (l : Nat) (R : Ending → World → Prop) : Exit → Env → World → Prop
  | .normal, _, w => ∃ v w', (Instr.endRound l none).run P w = .ok v w' ∧ R (.returned v) w'
  | .ret, _, w => ∃ v w', (Instr.endRound l (some .ret)).run P w = .ok v w' ∧ R (.returned v) w'
  | _, _, _ => False
theorem roundI {P : Program} {N n l : Nat} {fn : FuncId} {tmps : Array Value} {as bd : Code} {e : Env} {w : World} {R : Ending → World → Prop} (hr : RelI [] N e ⟨tmps, []⟩) (hok : (codeOKI N as && codeOKI N bd) = true)
    (h : vcI [] N (some l) n P (opV P) as (fun ex e1 w1 => ex = .normal ∧ ∃ w2, (Instr.beginRound l).run P w1 = .ok () w2 ∧ vcI [] N (some l) n P (opV P) bd (roundK P l R) e1 w2) e w) : RoundIn Fence.wide n P l fn tmps as bd w R := by
  rw [Bool.and_eq_true] at hok
  refine roundIn_of_wpIn (F := Fence.wide) trivial (wpIn_mono (vcI_sound (soundV P (some l) n) as _ _ _ _ hok.1 h hr) ?_)
  rintro ex a1 w1 ⟨e1, r1, h1⟩
  have hx : ex = .normal := by cases ex <;> first | rfl | exact h1.1
  subst hx
  obtain ⟨_, w2, hb, h2⟩ := h1
  refine ⟨w2, hb, wpIn_mono (vcI_sound (soundV P (some l) n) bd _ _ _ _ hok.2 h2 r1) ?_⟩
  rintro ex a3 w3 ⟨e3, r3, h3⟩
  cases ex <;> first | exact h3 | exact h3.elim
theorem relI_put2 {N p q : Nat} {e : Env} {tmps : Array Value} {u v : Value} (hr : RelI [] N e ⟨tmps, []⟩) (hp : p < N) (hq : q < N) : RelI [] N ((e.put p u).put q v) ⟨(tmps.setIfInBounds p u).setIfInBounds q v, []⟩ := by
  have step : ∀ (e : Env) (tmps : Array Value) (p : Nat) (u : Value), RelI [] N e ⟨tmps, []⟩ → p < N → RelI [] N (e.put p u) ⟨tmps.setIfInBounds p u, []⟩ := by
    intro e tmps p u hr hp
    have := RelI.put (o := { dst := some p, op := .move (.const u), type := 0, pos := "", after := #[], guard := none }) hr (by simpa [dstOK] using hp) u
    exact this
  exact step _ _ _ _ (step _ _ _ _ hr hp) hq
/-! ## results in cells -/
theorem runOf {P : Program} {α : Type} {s : Sem α} {v : α} {w : World} (h : wpR P s (fun a w' => a = v ∧ w' = w) w) : s.run P w = .ok v w := by
  rw [wpR_eq] at h
  obtain ⟨a, w', hr, rfl, rfl⟩ := wpS_sound P s _ w h
  exact hr
theorem resC1 {P : Program} {fn : Func} {tmps : Array Value} {w : World} {a : Nat} {t : TypeId} {ad : Addr} {v : Value} (h : fn.results.toList = [.cell a t]) (ha : tmps.getD a undef = .pointer (some ad)) (hv : (loadVar t ad).run P w = .ok v w) : (results fn tmps).run P w = .ok v w := by
  have hr : fn.results = [ResultVar.cell a t].toArray := by rw [← h]
  rw [Array.getD_eq_getD_getElem?] at ha
  unfold results; rw [hr]; simp [ha, asAddr, hv, Sem.run_bind, Result.andThen]
theorem resC3 {P : Program} {fn : Func} {tmps : Array Value} {w : World} {a1 a2 a3 : Nat} {t1 t2 t3 : TypeId} {d1 d2 d3 : Addr} {v1 v2 v3 : Value} (h : fn.results.toList = [.cell a1 t1, .cell a2 t2, .cell a3 t3]) (h1 : tmps.getD a1 undef = .pointer (some d1)) (h2 : tmps.getD a2 undef = .pointer (some d2)) (h3 : tmps.getD a3 undef = .pointer (some d3))
    (q1 : (loadVar t1 d1).run P w = .ok v1 w) (q2 : (loadVar t2 d2).run P w = .ok v2 w) (q3 : (loadVar t3 d3).run P w = .ok v3 w) : (results fn tmps).run P w = .ok (.tuple #[v1, v2, v3]) w := by
  have hr : fn.results = [ResultVar.cell a1 t1, .cell a2 t2, .cell a3 t3].toArray := by rw [← h]
  rw [Array.getD_eq_getD_getElem?] at h1 h2 h3
  unfold results; rw [hr]; simp [h1, h2, h3, asAddr, q1, q2, q3, Sem.run_bind, Result.andThen]
/-! ## the heap's items: what is put where -/
section
variable {P : Program} {B : Nat} {W0 w : World} {L : List It}
theorem St.allocO (H : St B W0 w L) (o : Obj) : St B W0 (w.alloc o) (.obj w.heap.size o :: L) :=
  H.cons ((Below.refl _ _).alloc (Nat.le_refl _) o) ⟨H.size, heap_alloc_new w o⟩ (fun g hg => by cases hg; exact Nat.le_refl _)
theorem St.putO (H : St B W0 w L) (i : Nat) {g : Nat} {o : Obj} (hi : L[i]? = some (.obj g o)) (o' : Obj) : St B W0 (w.putObj g o') (L.set i (.obj g o')) := by
  have hg := (H.obj i hi).2
  have hlt : g < w.heap.size := (Array.getElem?_eq_some_iff.1 hg).1
  refine H.turn i hi ⟨rfl, rfl, rfl, by simp, fun k hk hne => World.putObj_heap_other (fun e => hne (by rw [e]; rfl))⟩ ⟨(H.obj i hi).1, World.putObj_heap_same hlt⟩ (fun g' hg' => .inl hg')
end
end Go.Proofs.YtjdgcgmhbhfpkaaDoorE
