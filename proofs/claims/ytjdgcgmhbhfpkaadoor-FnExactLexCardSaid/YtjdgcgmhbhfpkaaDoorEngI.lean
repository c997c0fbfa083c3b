/- The engine once more, for code that a range over a function meets: rounds, and the functions that call yield. No condition of the laws stands here. -/
import Derived.Test.YtjdgcgmhbhfpkaaDoorSep
import Derived.RangeFuncLeaves
import Derived.RangeFuncRecord
import Derived.TacticsIn
namespace Go.Proofs.YtjdgcgmhbhfpkaaDoorE
open Go Go.RowKit
set_option linter.unusedVariables false
set_option maxRecDepth 100000
set_option linter.unusedSimpArgs false

abbrev FW (ro : Option Nat) : Fence := { Fence.wide with round := ro }
def noDefer (o : Oper) : Bool := match o.op with | .defer _ => false | _ => true
/-- a call of yield: its round -/
structure YieldS (P : Program) (n l : Nat) (args : List Value) (w : World) (K : Value → World → Prop) (X : List PanicEntry → World → Prop) : Prop where
  ex : ∃ fn tmps assign body, (Instr.yield l args.toArray).run P w = .ok (.round l fn tmps assign body) w ∧
    RoundIn Fence.wide n P l fn tmps assign body w fun e w' => match e with | .returned v => K v w' | .panicked ch => X ch w' | .outgrown => False
abbrev OpW := Oper → Env → World → (Value → World → Prop) → (List PanicEntry → World → Prop) → Prop
noncomputable def vopY (P : Program) (n : Nat) : OpW := fun o e w K X =>
  match o.op with
  | .call c => (match c.callee with
    | .value f => (match ev e f with
      | .func (.yield l) first _ => YieldS P n l (first.toList ++ c.args.toList.map (ev e)) w K X
      | _ => vopV P o e w K X)
    | _ => vopV P o e w K X)
  | _ => vopV P o e w K X
def GoodI (ro : Option Nat) (n : Nat) (P : Program) (o : Oper) (a : Act) (w : World) (K : Value → World → Prop) (X : List PanicEntry → World → Prop) : Prop :=
  o.uponIn (FW ro) n P a (fun a' w' => ∃ v, a' = a.put o.dst v ∧ K v w') (fun ex a' w' => a' = a ∧ match ex with | .panic ch => X ch w' | _ => False) ((o.semAt ro a.eval).run P w)
theorem semAt_calm {ro : Option Nat} {o : Oper} (h : noDefer o = true) (ρ : Operand → Value) : o.semAt ro ρ = execOp ρ o :=
  Oper.semAt_eq ro ρ o fun c e => by unfold noDefer at h; rw [e] at h; cases h
theorem callsIn_any {ro : Option Nat} {n : Nat} {P : Program} {f : FuncId} {args : Array Value} {w : World} {R : Ending → World → Prop} (h : Calls P f args w R) : CallsIn (FW ro) n P f args w R := callsIn_wide.2 h
theorem goodI_of {ro : Option Nat} {n : Nat} {P : Program} {o : Oper} {a : Act} {w : World} {K : Value → World → Prop} {X : List PanicEntry → World → Prop} (hd : noDefer o = true) (h : Good P o a w K X) : GoodI ro n P o a w K X := by
  unfold GoodI
  rw [semAt_calm hd]
  unfold Good at h
  generalize (execOp a.eval o).run P w = r at h
  cases r with
  | ok nx w' =>
    cases nx <;> first | exact h | exact h.elim | skip
    · exact ⟨(fun q => by cases q), callsIn_any h⟩
    · refine ⟨(fun q => by cases q), fun c cs _ => ?_⟩
      obtain ⟨v, w'', q, s⟩ := h c cs
      exact ⟨v, w'', q, stepsIn_wide.2 s⟩
  | halt hl w' => cases hl <;> first | exact h | exact h.elim
theorem vopY_sound {ro : Option Nat} {n : Nat} {P : Program} {o : Oper} {a : Act} {e : Env} {w : World} {K : Value → World → Prop} {X : List PanicEntry → World → Prop} (hd : noDefer o = true) (he : a.eval = ev e) (h : vopY P n o e w K X) : GoodI ro (n + 1) P o a w K X := by
  have base : vopV P o e w K X → GoodI ro (n + 1) P o a w K X := fun h => goodI_of hd (vop_sound he (by rw [vopV_eq] at h; exact h))
  obtain ⟨dst, op, type, pos, after, guard⟩ := o
  cases op with
  | call c =>
    obtain ⟨callee, args, argTypes⟩ := c
    cases callee with
    | value f =>
      simp only [vopY] at h
      split at h
      · rename_i l first captured hf
        obtain ⟨fn, tmps, as, bd, hy, hr⟩ := h.ex
        unfold GoodI
        rw [semAt_calm hd, he]
        have e1 : (first.toList ++ args.toList.map (ev e)).toArray = first ++ args.map (ev e) := by apply Array.ext'; simp
        rw [e1] at hy
        have e2 : (execOp (ev e) ⟨dst, .call ⟨.value f, args, argTypes⟩, type, pos, after, guard⟩).run P w = .ok (.round l fn tmps as bd) w := by
          simp only [execOp, resolve, hf, Deferred.ofValue, invoke, Sem.run_bind, Sem.run_pure, Result.andThen_ok, hy]
        rw [e2]
        refine ⟨(fun q => by cases q), hr.mono fun e' w' q => ?_⟩
        cases e' with
        | returned v => exact ⟨v, rfl, q⟩
        | panicked ch => exact ⟨rfl, q⟩
        | outgrown => exact q.elim
      · exact base h
    | builtin b => exact base h
    | invoke r name => exact base h
  | _ => exact base h

def RelI (D : List Deferred) (N : Nat) (e : Env) (a : Act) : Prop := a.defers = D ∧ a.tmps.size = N ∧ ∀ i, a.tmps.getD i undef = e i
theorem RelI.rel {D : List Deferred} {N : Nat} {e : Env} {a : Act} (h : RelI D N e a) : Rel N e { a with defers := [] } := ⟨rfl, h.2.1, h.2.2⟩
theorem RelI.eval {D : List Deferred} {N : Nat} {e : Env} {a : Act} (h : RelI D N e a) : a.eval = ev e := by
  funext x
  cases x with
  | tmp t => exact h.2.2 t
  | _ => rfl
theorem RelI.put {D : List Deferred} {N : Nat} {e : Env} {a : Act} (h : RelI D N e a) {o : Oper} (ho : dstOK N o = true) (v : Value) : RelI D N (e.putO o.dst v) (a.put o.dst v) := by
  have h2 := h.rel.put ho v
  refine ⟨?_, ?_, ?_⟩
  · cases hd : o.dst <;> simpa [Act.put, hd] using h.1
  · cases hd : o.dst with
    | none => exact h.2.1
    | some d => simpa [Act.put] using h.2.1
  · intro i
    have := h2.2.2 i
    cases hd : o.dst <;> simpa [Act.put, hd] using this
theorem wanted_ofI {D : List Deferred} {N : Nat} {opsA : Array Oper} {e : Env} {a : Act} (h : RelI D N e a) {o : Oper} {j g : Nat} {want : Bool} (ho : o.guard = some (j, want)) (hg : slotOf opsA.toList j = some g) :
    Region.wanted o (yielded opsA a.tmps) = match e g with | .bool b => b == want | _ => false := wanted_of (opsA := opsA) h.rel ho hg
section
variable {D : List Deferred} {ro : Option Nat} {n : Nat} {P : Program} {N : Nat} {opsA : Array Oper} {K : Env → World → Prop} {X : List PanicEntry → Env → World → Prop} {Q : Exit → Act → World → Prop}
theorem wpI_of {o : Oper} {a : Act} {w : World} {next : Act → World → Prop} {K : Value → World → Prop} {X : List PanicEntry → World → Prop}
    (h : GoodI ro n P o a w K X) (hk : ∀ v w', K v w' → next (a.put o.dst v) w') (hx : ∀ ch w', X ch w' → Q (.panic ch) a w') : o.wpIn (FW ro) n P a w next Q := by
  refine ⟨fun _ _ => trivial, ?_⟩
  unfold GoodI at h
  generalize (o.semAt ro a.eval).run P w = r at h
  have e : (FW ro).round = ro := rfl
  cases r with
  | ok nx w' =>
    cases nx with
    | value v => obtain ⟨u, hv, q⟩ := h; exact (show next (a.put o.dst v) w' from by rw [hv]; exact hk u w' q)
    | skip => obtain ⟨u, hv, q⟩ := h; exact (show next (a.put o.dst undef) w' from by rw [hv]; exact hk u w' q)
    | defer d => obtain ⟨u, hv, q⟩ := h; have h2 := hk u w' q; rw [← hv] at h2; exact h2
    | enter f args =>
      refine ⟨h.1, h.2.mono fun e w'' q => ?_⟩
      cases e with
      | returned v => obtain ⟨u, hv, q⟩ := q; exact (show next (a.put o.dst v) w'' from by rw [hv]; exact hk u w'' q)
      | panicked ch => exact hx _ _ q.2
      | outgrown => obtain ⟨a₀, w₀, q⟩ := q; exact q.2.elim
    | row r args => exact ⟨h.1, h.2.mono fun v w'' q => by obtain ⟨u, hv, q⟩ := q; rw [hv]; exact hk u w'' q⟩
    | round l f tmps as bd =>
      refine ⟨h.1, h.2.mono fun e w'' q => ?_⟩
      cases e with
      | returned v => obtain ⟨u, hv, q⟩ := q; exact (show next (a.put o.dst v) w'' from by rw [hv]; exact hk u w'' q)
      | panicked ch => exact hx _ _ q.2
      | outgrown => obtain ⟨a₀, w₀, q⟩ := q; exact q.2.elim
    | _ => exact h.elim
  | halt hl w' => cases hl <;> first | exact h.elim | (exact hx _ _ h.2)

noncomputable def vrunI (V : OpW) (X : List PanicEntry → Env → World → Prop) (l : List Oper) : Env → World → (Env → World → Prop) → Prop :=
  List.rec (motive := fun _ => Env → World → (Env → World → Prop) → Prop) (fun e w K => K e w)
    (fun o _ ih e w K => V o e w (fun v w' => ih (e.putO o.dst v) w' K) (fun ch w' => X ch e w')) l
noncomputable def vopsI (V : OpW) (all : List Oper) (K : Env → World → Prop) (X : List PanicEntry → Env → World → Prop) (n : Nat) : List Oper → Env → World → Prop :=
  Nat.rec (motive := fun _ => List Oper → Env → World → Prop) (fun _ _ _ => False)
    (fun _ ih l e w =>
      match l with
      | [] => K e w
      | o :: r =>
        match o.guard with
        | none => V o e w (fun v w' => ih r (e.putO o.dst v) w') (fun ch w' => X ch e w')
        | some (j, want) =>
          match slotOf all j with
          | none => False
          | some g =>
            match e g with
            | .bool b => GuardB b want (vrunI V X (o :: takeG (some (j, want)) r) (e.put g (.bool want)) w fun e' w' => ih (dropG (some (j, want)) r) e' w')
                (ih (dropG (some (j, want)) r) (undefs (o :: takeG (some (j, want)) r) (e.put g (.bool !want))) w)
            | _ => ih (dropG (some (j, want)) r) (undefs (o :: takeG (some (j, want)) r) e) w) n
def SoundV (V : OpW) (ro : Option Nat) (n : Nat) (P : Program) : Prop := ∀ (o : Oper) (a : Act) (e : Env) (w : World) (K : Value → World → Prop) (X : List PanicEntry → World → Prop), noDefer o = true → a.eval = ev e → V o e w K X → GoodI ro n P o a w K X
theorem skip_soundI (j g : Nat) (want : Bool) (hg : slotOf opsA.toList j = some g) (rest : List Oper) : ∀ (l : List Oper) (e : Env) (a : Act) (w : World), (∀ x ∈ l, x.guard = some (j, want) ∧ dstOK N x = true ∧ dstOf x g = true) → RelI D N e a →
    (match e g with | .bool b => b == want | _ => false) = false → (∀ a', RelI D N (undefs l e) a' → wpListIn (FW ro) n P opsA Q rest a' w) → wpListIn (FW ro) n P opsA Q (l ++ rest) a w := by
  intro l
  induction l with
  | nil => intro e a w _ hr _ h; exact h a hr
  | cons o l ih =>
    intro e a w hl hr hw h
    obtain ⟨ho, hd, hn⟩ := hl o List.mem_cons_self
    have hwt := wanted_ofI (opsA := opsA) hr ho hg
    rw [hw] at hwt
    simp only [List.cons_append, wpListIn, hwt]
    refine ⟨fun _ _ => trivial, ih _ _ w (fun x hx => hl x (List.mem_cons_of_mem _ hx)) (hr.put hd undef) ?_ h⟩
    rw [Env.putO_ne hn]
    exact hw
theorem run_soundI {V : OpW} (hV : SoundV V ro n P) (j g : Nat) (want : Bool) (hg : slotOf opsA.toList j = some g) (rest : List Oper) (hX : ∀ ch e w a, X ch e w → RelI D N e a → Q (.panic ch) a w) : ∀ (l : List Oper) (e : Env) (a : Act) (w : World) (K : Env → World → Prop), (∀ x ∈ l, x.guard = some (j, want) ∧ dstOK N x = true ∧ dstOf x g = true ∧ noDefer x = true) → RelI D N e a →
    e g = .bool want → vrunI V X l e w K → (∀ e' a' w', K e' w' → RelI D N e' a' → wpListIn (FW ro) n P opsA Q rest a' w') → wpListIn (FW ro) n P opsA Q (l ++ rest) a w := by
  intro l
  induction l with
  | nil => intro e a w K _ hr _ h hk; exact hk _ _ _ h hr
  | cons o l ih =>
    intro e a w K hl hr hw h hk
    obtain ⟨ho, hd, hn, hnd⟩ := hl o List.mem_cons_self
    have hwt := wanted_ofI (opsA := opsA) hr ho hg
    rw [hw] at hwt
    simp only [beq_self_eq_true] at hwt
    simp only [List.cons_append, wpListIn, hwt, if_true]
    refine wpI_of (hV o a e w _ _ hnd hr.eval h) ?_ ?_
    · intro v w' hv
      exact ih _ _ w' K (fun x hx => hl x (List.mem_cons_of_mem _ hx)) (hr.put hd v) (by rw [Env.putO_ne hn]; exact hw) hv hk
    · intro ch w' hx
      exact hX _ _ _ _ hx hr
theorem vops_soundI {V : OpW} (hV : SoundV V ro n P) (hok : regOK N opsA.toList = true) (hnd : ∀ o ∈ opsA.toList, noDefer o = true) (hK : ∀ e w a, K e w → RelI D N e a → Q .normal a w) (hX : ∀ ch e w a, X ch e w → RelI D N e a → Q (.panic ch) a w) :
    ∀ (m : Nat) (l : List Oper) (e : Env) (w : World) (a : Act), (∀ x ∈ l, x ∈ opsA.toList) → vopsI V opsA.toList K X m l e w → RelI D N e a → wpListIn (FW ro) n P opsA Q l a w := by
  have hall := regOK_all hok
  intro m
  induction m with
  | zero => intro l e w a _ h _; exact h.elim
  | succ m ih =>
    intro l e w a hl h hr
    cases l with
    | nil => exact hK _ _ _ h hr
    | cons o r =>
      have ho := hl o List.mem_cons_self
      obtain ⟨hd, hgd⟩ := hall o ho
      have h : (match o.guard with
        | none => V o e w (fun v w' => vopsI V opsA.toList K X m r (e.putO o.dst v) w') (fun ch w' => X ch e w')
        | some (j, want) =>
          match slotOf opsA.toList j with
          | none => False
          | some g =>
            match e g with
            | .bool b => GuardB b want (vrunI V X (o :: takeG (some (j, want)) r) (e.put g (.bool want)) w fun e' w' => vopsI V opsA.toList K X m (dropG (some (j, want)) r) e' w')
                (vopsI V opsA.toList K X m (dropG (some (j, want)) r) (undefs (o :: takeG (some (j, want)) r) (e.put g (.bool !want))) w)
            | _ => vopsI V opsA.toList K X m (dropG (some (j, want)) r) (undefs (o :: takeG (some (j, want)) r) e) w) := h
      cases hg : o.guard with
      | none =>
        simp only [hg] at h
        have hwt : Region.wanted o (yielded opsA a.tmps) = true := by simp [Region.wanted, hg]
        simp only [wpListIn, hwt, if_true]
        refine wpI_of (hV o a e w _ _ (hnd o ho) hr.eval h) ?_ ?_
        · intro v w' hv
          exact ih _ _ _ _ (fun x hx => hl x (List.mem_cons_of_mem _ hx)) hv (hr.put hd v)
        · intro ch w' hx
          exact hX _ _ _ _ hx hr
      | some jw =>
        obtain ⟨j, want⟩ := jw
        obtain ⟨g, hs, hx⟩ := hgd j want hg
        simp only [hg, hs] at h
        have hsplit : o :: r = (o :: takeG (some (j, want)) r) ++ dropG (some (j, want)) r := by
          rw [List.cons_append, ← takeG_drop]
        have hgrp : ∀ x ∈ o :: takeG (some (j, want)) r, x.guard = some (j, want) ∧ dstOK N x = true ∧ dstOf x g = true ∧ noDefer x = true := by
          intro x hx'
          have hmem : x ∈ opsA.toList := hl x (by rw [hsplit]; exact List.mem_append_left _ hx')
          have hxg : x.guard = some (j, want) := by
            rcases List.mem_cons.1 hx' with h' | h'
            · rw [h']; exact hg
            · exact takeG_same _ _ x h'
          exact ⟨hxg, (hall x hmem).1, hx x hmem hxg, hnd x hmem⟩
        have hrest : ∀ x ∈ dropG (some (j, want)) r, x ∈ opsA.toList := fun x hx' => hl x (by rw [hsplit]; exact List.mem_append_right _ hx')
        rw [hsplit]
        cases he : e g with
        | bool b =>
          simp only [he] at h
          by_cases hb : b = want
          · have h1 := h.all.1 hb
            refine run_soundI hV j g want hs _ hX _ e a w _ hgrp hr (by rw [he, hb]) (by rw [Env.put_same (by rw [he, hb])] at h1; exact h1) ?_
            intro e' a' w' hk hr'
            exact ih _ _ _ _ hrest hk hr'
          · have hb' : b = !want := by revert hb; cases b <;> cases want <;> simp
            have h1 := h.all.2 hb'
            rw [Env.put_same (by rw [he, hb'])] at h1
            refine skip_soundI j g want hs _ _ e a w (fun x hx => ⟨(hgrp x hx).1, (hgrp x hx).2.1, (hgrp x hx).2.2.1⟩) hr (by rw [he, hb']; cases want <;> rfl) ?_
            intro a' hr'
            exact ih _ _ _ _ hrest h1 hr'
        | _ =>
          simp only [he] at h
          refine skip_soundI j g want hs _ _ e a w (fun x hx => ⟨(hgrp x hx).1, (hgrp x hx).2.1, (hgrp x hx).2.2.1⟩) hr (by rw [he]) ?_
          intro a' hr'
          exact ih _ _ _ _ hrest h hr'
end
/-! ## code -/
def codeOKI (N : Nat) : Code → Bool
  | .region _ ops false => regOK N ops.toList && ops.toList.all noDefer
  | .region _ _ true => false
  | .seq x y => codeOKI N x && codeOKI N y
  | .cond _ x y => codeOKI N x && codeOKI N y
  | .block _ c | .loop c => codeOKI N c
  | .skip | .exit _ | .ret => true
  | _ => false
structure LoopI (D : List Deferred) (N : Nat) (ro : Option Nat) (n : Nat) (P : Program) (c : Code) (K : Exit → Env → World → Prop) (e : Env) (w : World) : Prop where
  sem : ∀ a, RelI D N e a → (Code.loop c).wpIn (FW ro) n P (fun ex a' w' => ∃ e', RelI D N e' a' ∧ K ex e' w') a w
noncomputable def vcI (D : List Deferred) (N : Nat) (ro : Option Nat) (n : Nat) (P : Program) (V : OpW) (c : Code) : CT :=
  Code.rec (motive := fun _ => CT)
    (skip := fun K e w => K .normal e w)
    (region := fun _ ops draw K e w => vopsI V ops.toList (K .normal) (fun ch => K (.panic ch)) (len ops.toList + 1) ops.toList e w)
    (seq := fun a _ x y K e w => x (fun ex e w => match ex with | .normal => y K e w | ex => K ex e w) e w)
    (cond := fun c _ _ x y K e w => Option.rec (motive := fun _ => Prop) False (fun b => CondB b (x K e w) (y K e w)) (boolOf (ev e c)))
    (block := fun id _ c K e w => c (fun ex e w => match ex with | .exit id' => Bool.rec (motive := fun _ => Prop) (K (.exit id') e w) (K .normal e w) (Nat.beq id' id) | ex => K ex e w) e w)
    (loop := fun c _ K e w => LoopI D N ro n P c K e w)
    (rangeFunc := fun _ _ _ _ _ _ _ _ _ => False)
    (exit := fun id K e w => K (.exit id) e w)
    (scope := fun _ _ _ _ _ => False)
    (label := fun _ _ _ _ => False)
    (goto := fun _ _ _ _ => False)
    (ret := fun K e w => K .ret e w)
    (refuse := fun _ _ _ _ => False) c
theorem vcI_sound {D : List Deferred} {N : Nat} {ro : Option Nat} {n : Nat} {P : Program} {V : OpW} (hV : SoundV V ro n P) (c : Code) : ∀ (K : Exit → Env → World → Prop) (e : Env) (w : World) (a : Act), codeOKI N c = true → vcI D N ro n P V c K e w → RelI D N e a →
    c.wpIn (FW ro) n P (fun ex a' w' => ∃ e', RelI D N e' a' ∧ K ex e' w') a w := by
  induction c with
  | skip => intro K e w a _ h hr; exact wpIn_skip ⟨e, hr, h⟩
  | exit id => intro K e w a _ h hr; exact wpIn_exit ⟨e, hr, h⟩
  | ret => intro K e w a _ h hr; exact wpIn_ret ⟨e, hr, h⟩
  | loop c _ => intro K e w a _ h hr; exact h.sem a hr
  | seq x y ihx ihy =>
    intro K e w a ho h hr
    simp only [codeOKI, Bool.and_eq_true] at ho
    refine wpIn_seq (wpIn_mono (ihx _ e w a ho.1 h hr) ?_)
    rintro ex a' w' ⟨e', hr', hk⟩
    cases ex with
    | normal => exact ihy K e' w' a' ho.2 hk hr'
    | _ => exact ⟨e', hr', hk⟩
  | cond c x y ihx ihy =>
    intro K e w a ho h hr
    simp only [codeOKI, Bool.and_eq_true] at ho
    have h : Option.rec (motive := fun _ => Prop) False (fun b => CondB b (vcI D N ro n P V x K e w) (vcI D N ro n P V y K e w)) (boolOf (ev e c)) := h
    cases hc : ev e c with
    | bool b =>
      rw [hc] at h
      have h : CondB b (vcI D N ro n P V x K e w) (vcI D N ro n P V y K e w) := h
      refine wpIn_cond (t := b) (by rw [hr.eval]; exact hc) ?_
      cases b
      · exact ihy K e w a ho.2 (h.all.2 rfl) hr
      · exact ihx K e w a ho.1 (h.all.1 rfl) hr
    | _ => rw [hc] at h; exact h.elim
  | block id c ih =>
    intro K e w a ho h hr
    refine wpIn_block (wpIn_mono (ih _ e w a ho h hr) ?_)
    rintro ex a' w' ⟨e', hr', hk⟩
    cases ex with
    | exit id' =>
      simp only [Exit.inBlock]
      by_cases hid : id' = id
      · subst hid
        simp only [Nat.beq_refl] at hk
        rw [if_pos rfl]
        exact ⟨e', hr', hk⟩
      · have hb : Nat.beq id' id = false := by
          cases hb : Nat.beq id' id with
          | false => rfl
          | true => exact absurd (Nat.eq_of_beq_eq_true hb) hid
        simp only [hb] at hk
        rw [if_neg hid]
        exact ⟨e', hr', hk⟩
    | _ => exact ⟨e', hr', hk⟩
  | region id ops draw =>
    intro K e w a ho h hr
    cases draw with
    | true => cases ho
    | false =>
      simp only [codeOKI, Bool.and_eq_true] at ho
      refine wpIn_region_list ?_
      exact vops_soundI (K := K .normal) (X := fun ch => K (.panic ch)) hV ho.1 (fun o h => List.all_eq_true.1 ho.2 o h) (fun e w a h hr => ⟨e, hr, h⟩) (fun ch e w a h hr => ⟨e, hr, h⟩) (len ops.toList + 1) ops.toList e w a (fun x hx => hx) h hr
  | _ => intro K e w a ho; cases ho
theorem loopI {D : List Deferred} {N : Nat} {ro : Option Nat} {n : Nat} {P : Program} {V : OpW} (hV : SoundV V ro n P) {c : Code} {K : Exit → Env → World → Prop} {e : Env} {w : World} (hc : codeOKI N c = true) (I : Nat → Env → World → Prop) (m : Nat) (h0 : I m e w)
    (hb : ∀ m e w, I m e w → vcI D N ro n P V c (fun ex e' w' => match ex with | .normal => ∃ m', m' < m ∧ I m' e' w' | ex => K ex e' w') e w) : LoopI D N ro n P c K e w := by
  refine ⟨fun a hr => ?_⟩
  let J : Act → World → Nat → Prop := fun a w n => ∃ e, RelI D N e a ∧ I n e w
  open Classical in
  let μ : Act → World → Nat := fun a w => if h : ∃ n, J a w n then Classical.choose (least h) else 0
  refine wpIn_loop (fun a w => ∃ n, J a w n) μ ⟨m, e, hr, h0⟩ ?_
  intro a w hI
  have hμ : μ a w = Classical.choose (least hI) := dif_pos hI
  obtain ⟨⟨e, hr, hI'⟩, hl⟩ := Classical.choose_spec (least hI)
  refine wpIn_mono (vcI_sound hV c _ e w a hc (hb _ e w hI') hr) ?_
  rintro ex a' w' ⟨e', hr', hk⟩
  cases ex with
  | normal =>
    obtain ⟨m, hm, hIm⟩ := hk
    have hex : ∃ n, J a' w' n := ⟨m, e', hr', hIm⟩
    refine ⟨hex, ?_⟩
    have h1 : μ a' w' = Classical.choose (least hex) := dif_pos hex
    have h2 : Classical.choose (least hex) ≤ m := (Classical.choose_spec (least hex)).2 m ⟨e', hr', hIm⟩
    omega
  | _ => exact ⟨e', hr', hk⟩
theorem soundY (P : Program) (ro : Option Nat) (n : Nat) : SoundV (vopY P n) ro (n + 1) P := fun o a e w K X hd he h => vopY_sound hd he h
/-- a function that may call yield -/
theorem calls_of_vcI {P : Program} {n : Nat} {f : FuncId} {fn : Func} {c : Code} {args : List Value} {w : World} {R : Ending → World → Prop} (hf : P.funcs[f]? = some fn) (hb : fn.body = some c) (hok : codeOKI fn.ntmps c = true)
    (hargs : args.length ≤ fn.ntmps) (h : vcI [] fn.ntmps none (n + 1) P (vopY P n) c (retK P fn R) (start args) w) : Calls P f args.toArray w R := by
  refine callsIn_wide.1 (callsIn_of_wp (F := FW none) (n := n + 1) hf hb trivial (wpIn_mono (vcI_sound (soundY P none n) c _ _ _ _ hok h ⟨rfl, by simp; omega, fun i => ?_⟩) ?_))
  · rw [start_eq, Array.getD_eq_getD_getElem?, Array.getElem?_append]
    by_cases hi : i < args.length
    · simp [hi]
    · simp only [List.size_toArray, hi, if_false, Array.getElem?_replicate]
      rw [List.getElem?_eq_none (by omega)]
      split <;> rfl
  · rintro ex a' w' ⟨e', hr', hk⟩
    cases ex with
    | normal => obtain ⟨v, h1, h2⟩ := resK_sound (fn := fn) (K := fun v => R (.returned v) w') hk; exact ⟨hr'.1, v, h1 _ hr'.2.2, h2⟩
    | ret => obtain ⟨v, h1, h2⟩ := resK_sound (fn := fn) (K := fun v => R (.returned v) w') hk; exact ⟨hr'.1, v, h1 _ hr'.2.2, h2⟩
    | panic ch => exact ⟨hr'.1, hk⟩
    | exit id => exact hk.elim
    | goto l => exact hk.elim
    | outgrown => exact hk.elim
/-! ## what is weaker -/
def MonoV (V : OpW) : Prop := ∀ (o : Oper) (e : Env) (w : World) (K K' : Value → World → Prop) (X X' : List PanicEntry → World → Prop), (∀ v w, K v w → K' v w) → (∀ c w, X c w → X' c w) → V o e w K X → V o e w K' X'
theorem vrunI_mono {V : OpW} (hV : MonoV V) {X X' : List PanicEntry → Env → World → Prop} (hx : ∀ c e w, X c e w → X' c e w) (l : List Oper) : ∀ (e : Env) (w : World) {K K' : Env → World → Prop}, (∀ e w, K e w → K' e w) → vrunI V X l e w K → vrunI V X' l e w K' := by
  induction l with
  | nil => intro e w K K' hk h; exact hk _ _ h
  | cons o r ih => intro e w K K' hk h; exact hV o e w _ _ _ _ (fun v w' q => ih _ _ hk q) (fun c w q => hx c _ w q) h
theorem vopsI_mono {V : OpW} (hV : MonoV V) {all : List Oper} {K K' : Env → World → Prop} {X X' : List PanicEntry → Env → World → Prop} (hk : ∀ e w, K e w → K' e w) (hx : ∀ c e w, X c e w → X' c e w) (n : Nat) : ∀ (l : List Oper) (e : Env) (w : World), vopsI V all K X n l e w → vopsI V all K' X' n l e w := by
  induction n with
  | zero => intro l e w h; exact h.elim
  | succ n ih =>
    intro l e w h
    cases l with
    | nil => exact hk _ _ h
    | cons o r =>
      have un : ∀ K X, vopsI V all K X (n + 1) (o :: r) e w = (match o.guard with
        | none => V o e w (fun v w' => vopsI V all K X n r (e.putO o.dst v) w') (fun ch w' => X ch e w')
        | some (j, want) =>
          match slotOf all j with
          | none => False
          | some g =>
            match e g with
            | .bool b => GuardB b want (vrunI V X (o :: takeG (some (j, want)) r) (e.put g (.bool want)) w fun e' w' => vopsI V all K X n (dropG (some (j, want)) r) e' w')
                (vopsI V all K X n (dropG (some (j, want)) r) (undefs (o :: takeG (some (j, want)) r) (e.put g (.bool !want))) w)
            | _ => vopsI V all K X n (dropG (some (j, want)) r) (undefs (o :: takeG (some (j, want)) r) e) w) := fun K X => rfl
      rw [un] at h ⊢
      split at h
      · exact hV _ _ _ _ _ _ _ (fun v w' q => ih _ _ _ q) (fun c w q => hx c _ w q) h
      · split at h
        · exact h.elim
        · split at h
          · exact ⟨fun q => vrunI_mono hV hx _ _ _ (fun e w q => ih _ _ _ q) (h.all.1 q), fun q => ih _ _ _ (h.all.2 q)⟩
          · exact ih _ _ _ h
theorem vcI_mono {D : List Deferred} {N : Nat} {ro : Option Nat} {n : Nat} {P : Program} {V : OpW} (hV : MonoV V) (c : Code) : ∀ {K K' : Exit → Env → World → Prop} {e : Env} {w : World}, (∀ ex e w, K ex e w → K' ex e w) → vcI D N ro n P V c K e w → vcI D N ro n P V c K' e w := by
  induction c with
  | region id ops draw =>
    intro K K' e w hk h
    exact vopsI_mono (K := K .normal) (X := fun ch => K (.panic ch)) (K' := K' .normal) (X' := fun ch => K' (.panic ch)) hV (fun e w q => hk _ _ _ q) (fun c e w q => hk _ _ _ q) (len ops.toList + 1) ops.toList e w h
  | seq x y ihx ihy =>
    intro K K' e w hk h
    refine ihx (K := fun ex e w => match ex with | .normal => vcI D N ro n P V y K e w | ex => K ex e w) ?_ h
    intro ex e w q
    cases ex <;> first | exact ihy hk q | exact hk _ _ _ q
  | cond c x y ihx ihy =>
    intro K K' e w hk h
    have un : ∀ K, vcI D N ro n P V (.cond c x y) K e w = Option.rec (motive := fun _ => Prop) False (fun b => CondB b (vcI D N ro n P V x K e w) (vcI D N ro n P V y K e w)) (boolOf (ev e c)) := fun K => rfl
    rw [un] at h ⊢
    cases hb : boolOf (ev e c) with
    | none => rw [hb] at h; exact h.elim
    | some b =>
      rw [hb] at h
      have h : CondB b (vcI D N ro n P V x K e w) (vcI D N ro n P V y K e w) := h
      exact (show CondB b (vcI D N ro n P V x K' e w) (vcI D N ro n P V y K' e w) from ⟨fun q => ihx hk (h.all.1 q), fun q => ihy hk (h.all.2 q)⟩)
  | block id c ih =>
    intro K K' e w hk h
    refine ih (K := fun ex e w => match ex with | .exit id' => Bool.rec (motive := fun _ => Prop) (K (.exit id') e w) (K .normal e w) (Nat.beq id' id) | ex => K ex e w) ?_ h
    intro ex e w q
    cases ex with
    | exit id' =>
      simp only at q ⊢
      cases hb : Nat.beq id' id <;> rw [hb] at q <;> exact hk _ _ _ q
    | _ => exact hk _ _ _ q
  | loop c ih => intro K K' e w hk h; exact ⟨fun a hr => wpIn_mono (h.sem a hr) fun ex a' w' ⟨e', hr', k⟩ => ⟨e', hr', hk ex e' w' k⟩⟩
  | skip => intro K K' e w hk h; exact hk _ _ _ h
  | exit id => intro K K' e w hk h; exact hk _ _ _ h
  | ret => intro K K' e w hk h; exact hk _ _ _ h
  | _ => intro K K' e w hk h; exact h.elim
end Go.Proofs.YtjdgcgmhbhfpkaaDoorE
