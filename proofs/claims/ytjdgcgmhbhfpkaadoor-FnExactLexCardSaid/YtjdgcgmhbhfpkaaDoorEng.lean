/- The engine: what a stretch of code does, reckoned step by step as a proposition over frames told by their slots ('vc'), and that it is sound for the machine ('vc_sound', 'calls_of_vc'). No condition of the laws stands here. -/
import Derived.Tactics
import Derived.StillTail
import Derived.Scope
import Derived.Below
namespace Go.Proofs.YtjdgcgmhbhfpkaaDoorE
open Go
set_option linter.unusedSimpArgs false
set_option linter.unusedVariables false
set_option maxRecDepth 100000

abbrev Env := Nat → Value
def Env.put (e : Env) (d : Nat) (v : Value) : Env := fun j => bif Nat.beq j d then v else e j
def Env.putO (e : Env) : Option Nat → Value → Env
  | some d, v => e.put d v
  | none, _ => e
def ev (e : Env) : Operand → Value
  | .tmp t => e t
  | .const v => v
  | .global g => .pointer (some ⟨g, 0, none⟩)
  | .func f => .func (.func f) #[] #[]

/-! ## the steps that ask something -/
structure SameW (w w' : World) : Prop where
  heap : w'.heap = w.heap
  os : w'.os = w.os
  tape : w'.tape = w.tape
  output : w'.output = w.output
theorem SameW.refl (w : World) : SameW w w := ⟨rfl, rfl, rfl, rfl⟩
theorem SameW.trans {a b c : World} (h : SameW a b) (k : SameW b c) : SameW a c := ⟨k.heap.trans h.heap, k.os.trans h.os, k.tape.trans h.tape, k.output.trans h.output⟩
theorem SameW.cell {a b : World} (h : SameW a b) (x : Addr) : b.cell? x = a.cell? x := by unfold World.cell?; rw [h.heap]
structure LoadS (w : World) (a : Addr) (K : Value → Prop) : Prop where
  ex : ∃ v, w.cell? a = some v ∧ K v
structure StoreS (w : World) (a : Addr) (v : Value) (K : World → Prop) : Prop where
  ex : (∃ u, w.cell? a = some u) ∧ w.frozen? a = false ∧ ((∀ cs, v ≠ .agg cs) ∧ ∀ cs, v ≠ .tuple cs) ∧ K (w.setCell a v)
structure NewS (w : World) (o : Obj) (K : Nat → World → Prop) : Prop where
  all : ∀ b w', b = w.heap.size → w' = w.alloc o → K b w'
structure AskS (w : World) (q : Question) (K : Nat → World → Prop) : Prop where
  all : ∀ n w', SameW w w' → K n w'
structure GetS (w : World) (r : Nat) (K : Obj → Prop) : Prop where
  ex : ∃ o, w.heap[r]? = some o ∧ (∀ c t f, o ≠ .cells c t f) ∧ K o
structure SetS (w : World) (r : Nat) (o : Obj) (K : World → Prop) : Prop where
  ex : (∃ u, w.heap[r]? = some u ∧ ∀ c t f, u ≠ .cells c t f) ∧ K { w with heap := w.heap.setIfInBounds r o }
structure RunS (P : Program) (s : Sem Value) (w : World) (K : Value → World → Prop) : Prop where
  ex : ∃ v w', s.run P w = .ok v w' ∧ K v w'
structure IdxS (A : Option Addr) (n : Nat) (i : Int) (K : Nat → Nat → Prop) : Prop where
  ex : 0 ≤ i ∧ i < n ∧ ∃ b off, A = some ⟨b, off, none⟩ ∧ K b off
structure StrS (s : ByteArray) (i : Int) (K : Int → Prop) : Prop where
  ex : ∃ h : 0 ≤ i ∧ i.toNat < s.size, K ((s[i.toNat]'h.2).toNat : Int)
structure CutS (len cap : Nat) (lo hi : Option Int) (K : Nat → Nat → Prop) : Prop where
  ex : ∃ l h : Nat, lo.getD 0 = l ∧ hi.getD len = h ∧ l ≤ h ∧ (hi.isSome = true → h ≤ cap) ∧ K l h
structure LetS (A : Option Addr) (K : Option Addr → Prop) : Prop where
  all : ∀ A', A' = A → K A'
structure LetV {α : Type} (a : α) (K : α → Prop) : Prop where
  all : ∀ a', a' = a → K a'
structure CondB (b : Bool) (X Y : Prop) : Prop where
  all : (b = true → X) ∧ (b = false → Y)
structure GuardB (b want : Bool) (X Y : Prop) : Prop where
  all : (b = want → X) ∧ (b = !want → Y)
def callOK (P : Program) (f : FuncId) : Bool :=
  match P.funcs[f]? with
  | some fn => fn.body.isSome && !(fn.name == "runtime.NumGoroutine")
  | none => false
structure CallS (P : Program) (f : FuncId) (args : List Value) (w : World) (K : Value → World → Prop) (X : List PanicEntry → World → Prop) : Prop where mk' ::
  ex : (callOK P f = true ∧ Calls P f args.toArray w fun e w' => match e with | .returned v => K v w' | .panicked ch => X ch w' | .outgrown => False) ∨ ∃ v w', (callFunc f args.toArray).run P w = .ok (.value v) w' ∧ K v w'
theorem CallS.mk {P : Program} {f : FuncId} {args : List Value} {w : World} {K : Value → World → Prop} {X : List PanicEntry → World → Prop} (ok : callOK P f = true) (go : Calls P f args.toArray w fun e w' => match e with | .returned v => K v w' | .panicked ch => X ch w' | .outgrown => False) : CallS P f args w K X := ⟨.inl ⟨ok, go⟩⟩
/-- a function of the model's own table -/
theorem CallS.ext {P : Program} {f : FuncId} {args : List Value} {w w' : World} {v : Value} {K : Value → World → Prop} {X : List PanicEntry → World → Prop} (h : (callFunc f args.toArray).run P w = .ok (.value v) w') (k : K v w') : CallS P f args w K X := ⟨.inr ⟨v, w', h, k⟩⟩
structure MethS (P : Program) (t : TypeId) (v : Value) (name : String) (args : List Value) (w : World) (K : Value → World → Prop) (X : List PanicEntry → World → Prop) : Prop where
  ex : ∃ f r, (method (P.types.size + Made.depth) t v name).run P w = .ok (f, r) w ∧ CallS P f (r :: args) w K X

/-! ## one operation -/
def wpS (P : Program) {α : Type} : Sem α → (α → World → Prop) → World → Prop
  | .pure a, K, w => K a w
  | .load _ a k, K, w => LoadS w a fun v => wpS P (k v) K w
  | .store _ a v k, K, w => StoreS w a v fun w' => wpS P k K w'
  | .new o k, K, w => NewS w o fun b w' => wpS P (k b) K w'
  | .shape r k, K, w => wpS P (k (w.shape? r)) K w
  | .freeze a n k, K, w => wpS P k K (w.freeze a n)
  | .frozen a k, K, w => wpS P (k (w.frozen? a)) K w
  | .getObj r k, K, w => GetS w r fun o => wpS P (k o) K w
  | .setObj r o k, K, w => SetS w r o fun w' => wpS P k K w'
  | .choose q k, K, w => AskS w q fun n w' => wpS P (k n) K w'
  | .sys _ _, _, _ => False
  | .program k, K, w => wpS P (k P) K w
  | .mark _ k, K, w => wpS P k K w
  | .halt _, _, _ => False

theorem wpS_sound (P : Program) {α : Type} (s : Sem α) : ∀ (K : α → World → Prop) (w : World), wpS P s K w → ∃ a w', s.run P w = .ok a w' ∧ K a w' := by
  induction s with
  | pure a => intro K w h; exact ⟨a, w, rfl, h⟩
  | load m a k ih => intro K w h; obtain ⟨v, hv, hk⟩ := h.ex; simp only [Sem.run, hv]; exact ih _ _ _ hk
  | store m a v k ih =>
    intro K w h
    obtain ⟨⟨u, hu⟩, hf, ⟨h1, h2⟩, hk⟩ := h.ex
    cases v with
    | agg cs => exact absurd rfl (h1 cs)
    | tuple cs => exact absurd rfl (h2 cs)
    | _ => simp only [Sem.run, hu, hf]; exact ih _ _ hk
  | new o k ih => intro K w h; exact ih _ _ _ (h.all _ _ rfl rfl)
  | shape r k ih => intro K w h; exact ih _ _ _ h
  | freeze a n k ih => intro K w h; exact ih _ _ h
  | frozen a k ih => intro K w h; exact ih _ _ _ h
  | getObj r k ih =>
    intro K w h
    obtain ⟨o, ho, hn, hk⟩ := h.ex
    cases o with
    | cells c t f => exact absurd rfl (hn c t f)
    | _ => simp only [Sem.run, ho]; exact ih _ _ _ hk
  | setObj r o k ih =>
    intro K w h
    obtain ⟨⟨u, hu, hn⟩, hk⟩ := h.ex
    cases u with
    | cells c t f => exact absurd rfl (hn c t f)
    | _ => simp only [Sem.run, hu]; exact ih _ _ hk
  | choose q k ih =>
    intro K w h
    simp only [Sem.run]
    split
    · exact ih _ _ _ (h.all _ _ (SameW.refl w))
    · exact ih _ _ _ (h.all _ _ ⟨rfl, rfl, rfl, rfl⟩)
  | sys c k ih => intro K w h; exact h.elim
  | program k ih => intro K w h; exact ih _ _ _ h
  | mark m k ih => intro K w h; exact ih _ _ h
  | halt h => intro K w h; exact h.elim

def sizeT (P : Program) (t : TypeId) : Nat := ((P.info? t).map (·.size)).getD 0
def vbuiltin (P : Program) (b : Builtin) (c : Call) (ty : TypeId) (as : List Value) (w : World) (K : Value → World → Prop) : Prop :=
  match b, as with
  | .len, as =>
    match (c.argTypes[0]?).bind P.underlying, as with
    | some (.slice _), [.slice _ n _] => K (.int .i64 n) w
    | some .string, [.string s] => K (.int .i64 s.size) w
    | _, _ => False
  | .append, as => RunS P (Builtin.append_ c.argTypes ty as.toArray) w K
  | .copy, as => RunS P (Builtin.copy_ c.argTypes ty as.toArray) w K
  | .min, as => RunS P (Builtin.min_ c.argTypes ty as.toArray) w K
  | .max, as => RunS P (Builtin.max_ c.argTypes ty as.toArray) w K
  | .cap, as => RunS P (Builtin.cap_ c.argTypes ty as.toArray) w K
  | .clear, as => RunS P (Builtin.clear_ c.argTypes ty as.toArray) w K
  | .delete, as => RunS P (Builtin.delete_ c.argTypes ty as.toArray) w K
  | _, _ => False
def vcall (P : Program) (c : Call) (ty : TypeId) (e : Env) (w : World) (K : Value → World → Prop) (X : List PanicEntry → World → Prop) : Prop :=
  match c.callee with
  | .value f =>
    match ev e f with
    | .func (.func g) first captured => CallS P g (first.toList ++ (c.args.toList.map (ev e) ++ captured.toList)) w K X
    | _ => False
  | .builtin b => vbuiltin P b c ty (c.args.toList.map (ev e)) w K
  | .invoke r name =>
    match ev e r with
    | .iface t v => MethS P t v name (c.args.toList.map (ev e)) w K X
    | _ => False
def asI : Option Value → Option (Option Int)
  | none => some none
  | some (.int _ i) => some (some i)
  | _ => none
def vop (P : Program) (o : Oper) (e : Env) (w : World) (K : Value → World → Prop) (X : List PanicEntry → World → Prop) : Prop :=
  match o.op with
  | .call c => vcall P c o.type e w K X
  | .move x | .assign x => K (ev e x) w
  | .build t parts => RunS P (Instr.build t (parts.toList.map fun p => (p.1, ev e p.2)).toArray) w K
  | .buildSlice t len parts => RunS P (Instr.buildSlice t len (parts.toList.map fun p => (p.1, ev e p.2)).toArray) w K
  | .makeFunc fn first captured => K (.func fn (first.toList.map (ev e)).toArray (captured.toList.map (ev e)).toArray) w
  | .makeSlice t l c => RunS P (Instr.makeSlice t (ev e l) (ev e c)) w K
  | .typeAssert x xT T ok => RunS P (Instr.typeAssert (ev e x) xT T ok) w K
  | .indexAddr t x ix =>
    match P.underlying t, ev e x, ev e ix with
    | some (.slice el), .slice A n _, .int _ i =>
      match P.info? el with
      | some inf => IdxS A n i fun b off => K (.pointer (some ⟨b, off + i.toNat * inf.size, none⟩)) w
      | none => False
    | some (.array n el), .pointer A, .int _ i =>
      match P.info? el with
      | some inf => IdxS A n i fun b off => K (.pointer (some ⟨b, off + i.toNat * inf.size, none⟩)) w
      | none => False
    | _, _, _ => False
  | .index t x ix =>
    match P.underlying t, ev e x, ev e ix with
    | some .string, .string s, .int _ i => StrS s i fun b => K (.int .u8 b) w
    | _, x, ix => RunS P (Instr.index t x ix) w K
  | .slice t x lo hi none =>
    match P.underlying t, ev e x, asI (lo.map (ev e)), asI (hi.map (ev e)) with
    | some (.slice el), .slice A n c, some l, some h =>
      match P.info? el with
      | some inf => CutS n c l h fun l h => LetS (if c = l then A else A.map (·.add (l * inf.size))) fun A' => K (.slice A' (h - l) (c - l)) w
      | none => False
    | some .string, .string s, some l, some h => CutS s.size s.size l h fun l h => LetV (.string (s.extract l h)) fun v => K v w
    | _, x, _, _ => RunS P (Instr.sliceAt t x (lo.map (ev e)) (hi.map (ev e)) none) w K
  | .slice t x lo hi (some m) => RunS P (Instr.sliceAt t (ev e x) (lo.map (ev e)) (hi.map (ev e)) (some (ev e m))) w K
  | .makeMap t r => RunS P (Instr.makeMap t (r.map (ev e))) w K
  | .lookup t x ix ok => RunS P (Instr.lookup t (ev e x) (ev e ix) ok) w K
  | .mapEntry t m k => RunS P (Instr.mapEntry t (ev e m) (ev e k)) w K
  | .mapUpdate t m k x => RunS P (do Instr.mapUpdate t (ev e m) (ev e k) (ev e x); pure undef) w K
  | .entryStore t m k x => RunS P (do Instr.entryStore t (ev e m) (ev e k) (ev e x); pure undef) w K
  | .convert s d x =>
    match P.underlying s, P.underlying d, ev e x with
    | some (.int _), some (.int k), .int _ n => K (.int k (k.wrap n)) w
    | _, _, x => RunS P (convert s d x) w K
  | .panic x =>
    match ev e x with
    | .iface t v => X [{ v := .iface t v, recovered := false }] w
    | _ => False
  | _ => wpS P (execOp (ev e) o) (fun nx w' => match nx with | .value v => K v w' | .skip => K undef w' | _ => False) w

/-! ## what an operation's word is good for -/
def Good (P : Program) (o : Oper) (a : Act) (w : World) (K : Value → World → Prop) (X : List PanicEntry → World → Prop) : Prop :=
  o.upon P a (fun a' w' => ∃ v, a' = a.put o.dst v ∧ K v w') (fun ex a' w' => a' = a ∧ match ex with | .panic ch => X ch w' | _ => False) ((execOp a.eval o).run P w)

theorem good_value {P : Program} {o : Oper} {a : Act} {w w' : World} {K : Value → World → Prop} {X : List PanicEntry → World → Prop} {v : Value} (h : (execOp a.eval o).run P w = .ok (.value v) w') (k : K v w') : Good P o a w K X := by
  unfold Good; rw [h]; exact ⟨v, rfl, k⟩
theorem good_enter {P : Program} {o : Oper} {a : Act} {w : World} {K : Value → World → Prop} {X : List PanicEntry → World → Prop} {g : FuncId} {args : Array Value} (h : (execOp a.eval o).run P w = .ok (.enter g args) w)
    (k : Calls P g args w fun e w' => match e with | .returned v => K v w' | .panicked ch => X ch w' | .outgrown => False) : Good P o a w K X := by
  unfold Good; rw [h]
  refine Calls.mono k ?_
  intro e w' h
  cases e with
  | returned v => exact ⟨v, rfl, h⟩
  | panicked ch => exact ⟨rfl, h⟩
  | outgrown => exact h.elim
theorem good_panic {P : Program} {o : Oper} {a : Act} {w : World} {K : Value → World → Prop} {X : List PanicEntry → World → Prop} {v : Value} (h : (execOp a.eval o).run P w = .halt (.panic v) w) (k : X [{ v, recovered := false }] w) : Good P o a w K X := by
  unfold Good; rw [h]; exact ⟨rfl, k⟩
theorem callFunc_run {P : Program} {g : FuncId} {w : World} (args : Array Value) (h : callOK P g = true) : (callFunc g args).run P w = .ok (.enter g args) w := by
  unfold callOK at h
  unfold callFunc
  cases hf : P.funcs[g]? with
  | none => rw [hf] at h; cases h
  | some fn =>
    rw [hf] at h
    simp only [Bool.and_eq_true, Bool.not_eq_true', Option.isSome_iff_ne_none] at h
    have hb : fn.body.isNone = false := by cases hh : fn.body with | none => exact absurd hh h.1 | some _ => rfl
    have hn : ¬ fn.name = "runtime.NumGoroutine" := by have := h.2; simpa using this
    simp only [Sem.run_bind, program, Sem.run, Result.andThen, hf, h.2, hb]
    rfl
theorem good_run {P : Program} {o : Oper} {a : Act} {w : World} {K : Value → World → Prop} {X : List PanicEntry → World → Prop} {s : Sem Value} (he : execOp a.eval o = (do let x ← s; pure (.value x)))
    (h : RunS P s w K) : Good P o a w K X := by
  obtain ⟨v, w', hr, hk⟩ := h.ex
  exact good_value (v := v) (w' := w') (by rw [he]; simp [hr]) hk
theorem good_unit {P : Program} {o : Oper} {a : Act} {w : World} {K : Value → World → Prop} {X : List PanicEntry → World → Prop} {s : Sem Unit} (he : execOp a.eval o = (do s; pure .skip))
    (h : RunS P (do s; pure undef) w K) : Good P o a w K X := by
  obtain ⟨v, w', hr, hk⟩ := h.ex
  have hs : s.run P w = .ok () w' ∧ v = undef := by
    rw [Sem.run_bind] at hr
    cases hq : s.run P w with
    | ok u w2 => rw [hq] at hr; cases hr; exact ⟨rfl, rfl⟩
    | _ => rw [hq] at hr; cases hr
  obtain ⟨hs, rfl⟩ := hs
  unfold Good; rw [he, Sem.run_bind, hs]; exact ⟨undef, rfl, hk⟩
theorem good_same {P : Program} {o : Oper} {a : Act} {w : World} {K : Value → World → Prop} {X : List PanicEntry → World → Prop} {s : Sem Value} {v : Value} (he : execOp a.eval o = (do let x ← s; pure (.value x)))
    (hr : s.run P w = .ok v w) (hk : K v w) : Good P o a w K X :=
  good_value (v := v) (w' := w) (by rw [he]; simp [hr]) hk
theorem sizeT_of {P : Program} {t : TypeId} {i : TypeInfo} (h : P.info? t = some i) : sizeT P t = i.size := by simp [sizeT, h]

theorem bound_run {P : Program} {w : World} (k : IntKind) (i : Nat) (y : Nat) (code : BoundsCode) (h1 : i ≤ y) : (Instr.sliceBound (.int k i) y code).run P w = .ok i w := by
  have : (i : Int) ≤ y := by omega
  simp [Instr.sliceBound, asIntOf, Sem.run_bind, this]
theorem asI_some {v : Option Value} {i : Int} (h : asI v = some (some i)) : ∃ k, v = some (.int k i) := by
  cases v with
  | none => simp [asI] at h
  | some v => cases v <;> simp [asI] at h; subst h; exact ⟨_, rfl⟩
theorem asI_none {v : Option Value} (h : asI v = some none) : v = none := by
  cases v with
  | none => rfl
  | some v => cases v <;> simp [asI] at h
theorem bounds_run {P : Program} {w : World} {b : Bool} {n c : Nat} {lo hi : Option Value} {l h : Option Int} {l' h' : Nat} (hl : asI lo = some l) (hh : asI hi = some h)
    (h1 : l.getD 0 = l') (h2 : h.getD n = h') (h3 : l' ≤ h') (h4 : h.isSome = true → h' ≤ c) : (Instr.sliceBounds b n c lo hi none).run P w = .ok (l', h', c) w := by
  cases h with
  | none =>
    have hn := asI_none hh
    subst hn
    have e : n = h' := by simp only [Option.getD_none] at h2; omega
    subst e
    cases l with
    | none =>
      have hn := asI_none hl
      subst hn
      have e : 0 = l' := by simp only [Option.getD_none] at h1; omega
      subst e
      simp [Instr.sliceBounds, Sem.run_bind]
    | some i =>
      obtain ⟨k, rfl⟩ := asI_some hl
      simp only [Option.getD_some] at h1
      subst h1
      simp [Instr.sliceBounds, Sem.run_bind, bound_run k l' n _ h3]
  | some i =>
    obtain ⟨k, rfl⟩ := asI_some hh
    simp only [Option.getD_some] at h2
    subst h2
    have h4 := h4 rfl
    cases l with
    | none =>
      have hn := asI_none hl
      subst hn
      have e : 0 = l' := by simp only [Option.getD_none] at h1; omega
      subst e
      simp [Instr.sliceBounds, Sem.run_bind, bound_run k h' c _ h4]
    | some i =>
      obtain ⟨k', rfl⟩ := asI_some hl
      simp only [Option.getD_some] at h1
      subst h1
      simp [Instr.sliceBounds, Sem.run_bind, bound_run k h' c _ h4, bound_run k' l' h' _ h3]
section
variable {P : Program} {e : Env} {w : World} {dst : Option Tmp} {type : TypeId} {pos : String} {after : Array Edge} {guard : Option (Nat × Bool)}
theorem len_run1 {args : Array Operand} {argTypes : Array TypeId} {el : TypeId} {A : Option Addr} {n c : Nat} (hu : (argTypes[0]?).bind P.underlying = some (.slice el)) (hl : args.toList.map (ev e) = [.slice A n c]) :
    (execOp (ev e) ⟨dst, .call ⟨.builtin .len, args, argTypes⟩, type, pos, after, guard⟩).run P w = .ok (.value (.int .i64 n)) w := by
  have hA : args.map (ev e) = (args.toList.map (ev e)).toArray := by apply Array.ext'; simp
  obtain ⟨t, ht, hu⟩ := Option.bind_eq_some_iff.1 hu
  simp [execOp, resolve, Sem.run_bind, Sem.run_pure, Result.andThen_ok, invoke, builtin, hA, hl, Builtin.len_, ht, underlying, program, Sem.run, hu]
  rfl
theorem len_run2 {args : Array Operand} {argTypes : Array TypeId} {s : ByteArray} (hu : (argTypes[0]?).bind P.underlying = some .string) (hl : args.toList.map (ev e) = [.string s]) :
    (execOp (ev e) ⟨dst, .call ⟨.builtin .len, args, argTypes⟩, type, pos, after, guard⟩).run P w = .ok (.value (.int .i64 s.size)) w := by
  have hA : args.map (ev e) = (args.toList.map (ev e)).toArray := by apply Array.ext'; simp
  obtain ⟨t, ht, hu⟩ := Option.bind_eq_some_iff.1 hu
  simp [execOp, resolve, Sem.run_bind, Sem.run_pure, Result.andThen_ok, invoke, builtin, hA, hl, Builtin.len_, ht, underlying, program, Sem.run, hu]
  rfl
theorem val_of {o : Oper} {s : Sem Value} {v : Value} {w' : World} (he : execOp (ev e) o = (do let x ← s; pure (.value x))) (h : s.run P w = .ok v w') : (execOp (ev e) o).run P w = .ok (.value v) w' := by
  rw [he]; simp [h]
theorem add_plain (b off k : Nat) : (⟨b, off, none⟩ : Addr).add k = ⟨b, off + k, none⟩ := by
  unfold Addr.add
  split
  · rename_i h; subst h; rfl
  · rfl
theorem idx_run {t : TypeId} {x ix : Operand} {el : TypeId} {b off : Nat} {n c : Nat} {k : IntKind} {i : Int} {inf : TypeInfo} (hu : P.underlying t = some (.slice el)) (hx : ev e x = .slice (some ⟨b, off, none⟩) n c) (hi : ev e ix = .int k i) (hs : P.info? el = some inf)
    (h0 : 0 ≤ i) (h1 : i < n) : (execOp (ev e) ⟨dst, .indexAddr t x ix, type, pos, after, guard⟩).run P w = .ok (.value (.pointer (some ⟨b, off + i.toNat * inf.size, none⟩))) w := by
  refine val_of (s := Instr.indexAt t (ev e x) (ev e ix)) rfl ?_
  rw [hx, hi, ← add_plain]
  simp [Instr.indexAt, asIntOf, Sem.run_bind, underlying, program, Sem.run, hu, h0, h1, Result.andThen, sizeOf, typeInfo, hs]
theorem arr_run {t : TypeId} {x ix : Operand} {el : TypeId} {b off : Nat} {n : Nat} {k : IntKind} {i : Int} {inf : TypeInfo} (hu : P.underlying t = some (.array n el)) (hx : ev e x = .pointer (some ⟨b, off, none⟩)) (hi : ev e ix = .int k i) (hs : P.info? el = some inf)
    (h0 : 0 ≤ i) (h1 : i < n) : (execOp (ev e) ⟨dst, .indexAddr t x ix, type, pos, after, guard⟩).run P w = .ok (.value (.pointer (some ⟨b, off + i.toNat * inf.size, none⟩))) w := by
  refine val_of (s := Instr.indexAt t (ev e x) (ev e ix)) rfl ?_
  rw [hx, hi, ← add_plain]
  simp [Instr.indexAt, Instr.sureAddr, asIntOf, Sem.run_bind, underlying, program, Sem.run, hu, h0, h1, Result.andThen, sizeOf, typeInfo, hs]
theorem str_run {t : TypeId} {x ix : Operand} {s : ByteArray} {k : IntKind} {i : Int} (hu : P.underlying t = some .string) (hx : ev e x = .string s) (hi : ev e ix = .int k i) (h0 : 0 ≤ i) (h1 : i.toNat < s.size) :
    (execOp (ev e) ⟨dst, .index t x ix, type, pos, after, guard⟩).run P w = .ok (.value (.int .u8 ((s[i.toNat]'h1).toNat : Int))) w := by
  refine val_of (s := Instr.index t (ev e x) (ev e ix)) rfl ?_
  rw [hx, hi]
  simp [Instr.index, asIntOf, Sem.run_bind, underlying, program, Sem.run, hu, h0, h1, Result.andThen]
theorem cut_run1 {t : TypeId} {x : Operand} {lo hi : Option Operand} {el : TypeId} {A : Option Addr} {n c : Nat} {l h : Option Int} {inf : TypeInfo} {l' h' : Nat} (hu : P.underlying t = some (.slice el)) (hx : ev e x = .slice A n c)
    (hl : asI (lo.map (ev e)) = some l) (hh : asI (hi.map (ev e)) = some h) (hs : P.info? el = some inf) (h1 : l.getD 0 = l') (h2 : h.getD n = h') (h3 : l' ≤ h') (h4 : h.isSome = true → h' ≤ c) :
    (execOp (ev e) ⟨dst, .slice t x lo hi none, type, pos, after, guard⟩).run P w = .ok (.value (.slice (if c = l' then A else A.map (·.add (l' * inf.size))) (h' - l') (c - l'))) w := by
  refine val_of (s := Instr.sliceAt t (ev e x) (lo.map (ev e)) (hi.map (ev e)) none) rfl ?_
  rw [hx]
  simp only [Instr.sliceAt, Sem.run_bind, underlying, program, Sem.run, hu, Result.andThen, Sem.run_pure, Instr.slice, bounds_run hl hh h1 h2 h3 h4, sizeOf, typeInfo, hs]
theorem cut_run2 {t : TypeId} {x : Operand} {lo hi : Option Operand} {s : ByteArray} {l h : Option Int} {l' h' : Nat} (hu : P.underlying t = some .string) (hx : ev e x = .string s)
    (hl : asI (lo.map (ev e)) = some l) (hh : asI (hi.map (ev e)) = some h) (h1 : l.getD 0 = l') (h2 : h.getD s.size = h') (h3 : l' ≤ h') (h4 : h.isSome = true → h' ≤ s.size) :
    (execOp (ev e) ⟨dst, .slice t x lo hi none, type, pos, after, guard⟩).run P w = .ok (.value (.string (s.extract l' h'))) w := by
  refine val_of (s := Instr.sliceAt t (ev e x) (lo.map (ev e)) (hi.map (ev e)) none) rfl ?_
  rw [hx]
  simp [Instr.sliceAt, Sem.run_bind, underlying, program, Sem.run, hu, Result.andThen, Sem.run_pure, Instr.slice, bounds_run hl hh h1 h2 h3 h4]
theorem conv_run {s d : TypeId} {x : Operand} {k1 k2 k : IntKind} {n : Int} (hs : P.underlying s = some (.int k1)) (hd : P.underlying d = some (.int k2)) (hx : ev e x = .int k n) :
    (execOp (ev e) ⟨dst, .convert s d x, type, pos, after, guard⟩).run P w = .ok (.value (.int k2 (k2.wrap n))) w := by
  refine val_of (s := convert s d (ev e x)) rfl ?_
  rw [hx]
  simp [convert, Sem.run_bind, underlying, program, Sem.run, hs, hd, Result.andThen, Conv.intToInt]
end

theorem vop_sound {P : Program} {o : Oper} {a : Act} {e : Env} {w : World} {K : Value → World → Prop} {X : List PanicEntry → World → Prop} (he : a.eval = ev e) (h : vop P o e w K X) : Good P o a w K X := by
  have gen : wpS P (execOp (ev e) o) (fun nx w' => match nx with | .value v => K v w' | .skip => K undef w' | _ => False) w → Good P o a w K X := by
    intro h
    obtain ⟨nx, w', hr, hk⟩ := wpS_sound _ _ _ _ h
    rw [← he] at hr
    cases nx <;> simp only at hk
    case value v => exact good_value hr hk
    case skip => unfold Good; rw [hr]; exact ⟨undef, rfl, hk⟩
  obtain ⟨dst, op, type, pos, after, guard⟩ := o
  cases op with
  | call c =>
    obtain ⟨callee, args, argTypes⟩ := c
    have h : vcall P ⟨callee, args, argTypes⟩ type e w K X := h
    cases callee with
    | value f =>
      simp only [vcall] at h
      split at h
      · rename_i g first captured hf
        have e1 : (first.toList ++ (args.toList.map (ev e) ++ captured.toList)).toArray = first ++ args.map (ev e) ++ captured := by
          apply Array.ext'; simp
        rcases h.ex with ⟨hok, hgo⟩ | ⟨v, w', hr, hk⟩
        · refine good_enter (g := g) (args := (first.toList ++ (args.toList.map (ev e) ++ captured.toList)).toArray) ?_ hgo
          rw [e1, he]
          simp only [execOp, resolve, hf, Deferred.ofValue, invoke, Sem.run_bind, Sem.run_pure, Result.andThen_ok]
          exact callFunc_run _ hok
        · refine good_value (v := v) (w' := w') ?_ hk
          rw [e1] at hr
          rw [he]
          simp only [execOp, resolve, hf, Deferred.ofValue, invoke, Sem.run_bind, Sem.run_pure, Result.andThen_ok]
          exact hr
      · exact h.elim
    | builtin b =>
      have hx : execOp a.eval { dst := dst, op := Op.call ⟨Callee.builtin b, args, argTypes⟩, type := type, pos := pos, after := after, guard := guard } = (do let d ← resolve (ev e) ⟨Callee.builtin b, args, argTypes⟩ type; invoke d.target d.args) := by rw [he]; rfl
      have hA : args.map (ev e) = (args.toList.map (ev e)).toArray := by apply Array.ext'; simp
      simp only [vcall] at h
      unfold vbuiltin at h
      split at h
      · split at h
        · rename_i el A n c hu hl
          exact good_value (by rw [he]; exact len_run1 hu hl) h
        · rename_i s hu hl
          exact good_value (by rw [he]; exact len_run2 hu hl) h
        · exact h.elim
      all_goals first
        | exact h.elim
        | (obtain ⟨v, w', hr, hk⟩ := h.ex
           refine good_value (v := v) (w' := w') ?_ hk
           rw [hx]
           simp only [resolve, Sem.run_bind, Sem.run_pure, Result.andThen_ok, invoke, builtin, hA, hr])
    | invoke r name =>
      simp only [vcall] at h
      split at h
      · rename_i t v hf
        obtain ⟨f, r', hm, hc⟩ := h.ex
        have e1 : (r' :: args.toList.map (ev e)).toArray = #[r'] ++ args.map (ev e) := by
          apply Array.ext'; simp
        have e2 : (#[Value.iface t v] ++ args.map (ev e))[0]? = some (.iface t v) := by rw [Array.getElem?_append_left (by simp)]; rfl
        have e3 : (#[Value.iface t v] ++ args.map (ev e)).extract 1 (#[Value.iface t v] ++ args.map (ev e)).size = args.map (ev e) := by
          apply Array.ext'; simp [List.take_of_length_le]
        rcases hc.ex with ⟨hok, hgo⟩ | ⟨u, w', hr, hk⟩
        · refine good_enter (g := f) (args := (r' :: args.toList.map (ev e)).toArray) ?_ hgo
          rw [e1, he]
          simp only [execOp, resolve, Sem.run_bind, Sem.run_pure, Result.andThen_ok, invoke, hf]
          rw [e2, e3]
          simp only [callMethod, Sem.run_bind, program, Sem.run, Result.andThen_ok, hm]
          exact callFunc_run _ hok
        · refine good_value (v := u) (w' := w') ?_ hk
          rw [e1] at hr
          rw [he]
          simp only [execOp, resolve, Sem.run_bind, Sem.run_pure, Result.andThen_ok, invoke, hf]
          rw [e2, e3]
          simp only [callMethod, Sem.run_bind, program, Sem.run, Result.andThen_ok, hm]
          exact hr
      · exact h.elim
  | build t parts =>
    have hA : parts.map (fun p : Nat × Operand => (p.1, ev e p.2)) = (parts.toList.map fun p : Nat × Operand => (p.1, ev e p.2)).toArray := by apply Array.ext'; simp
    refine good_run (s := Instr.build t (parts.toList.map fun p : Nat × Operand => (p.1, ev e p.2)).toArray) ?_ h
    rw [he, ← hA]; rfl
  | buildSlice t n parts =>
    have hA : parts.map (fun p : Nat × Operand => (p.1, ev e p.2)) = (parts.toList.map fun p : Nat × Operand => (p.1, ev e p.2)).toArray := by apply Array.ext'; simp
    refine good_run (s := Instr.buildSlice t n (parts.toList.map fun p : Nat × Operand => (p.1, ev e p.2)).toArray) ?_ h
    rw [he, ← hA]; rfl
  | makeFunc fn first captured =>
    refine good_value (v := .func fn (first.toList.map (ev e)).toArray (captured.toList.map (ev e)).toArray) (w' := w) ?_ h
    have h1 : first.map (ev e) = (first.toList.map (ev e)).toArray := by apply Array.ext'; simp
    have h2 : captured.map (ev e) = (captured.toList.map (ev e)).toArray := by apply Array.ext'; simp
    rw [he, ← h1, ← h2]
    rfl
  | makeSlice t l c => exact good_run (s := Instr.makeSlice t (ev e l) (ev e c)) (by rw [he]; rfl) h
  | typeAssert x xT T ok => exact good_run (s := Instr.typeAssert (ev e x) xT T ok) (by rw [he]; rfl) h
  | indexAddr t x ix =>
    simp only [vop] at h
    split at h
    · split at h
      · rename_i hu hx hi _ inf hs
        obtain ⟨h0, h1, b', off', rfl, hk⟩ := h.ex
        exact good_value (by rw [he]; exact idx_run hu hx hi hs h0 h1) hk
      · exact h.elim
    · split at h
      · rename_i hu hx hi _ inf hs
        obtain ⟨h0, h1, b', off', rfl, hk⟩ := h.ex
        exact good_value (by rw [he]; exact arr_run hu hx hi hs h0 h1) hk
      · exact h.elim
    · exact h.elim
  | index t x ix =>
    simp only [vop] at h
    split at h
    · rename_i hu hx hi
      obtain ⟨⟨h0, h1⟩, hk⟩ := h.ex
      exact good_value (by rw [he]; exact str_run hu hx hi h0 h1) hk
    · exact good_run (s := Instr.index t (ev e x) (ev e ix)) (by rw [he]; rfl) h
  | makeMap t r => exact good_run (s := Instr.makeMap t (r.map (ev e))) (by rw [he]; rfl) h
  | lookup t x ix ok => exact good_run (s := Instr.lookup t (ev e x) (ev e ix) ok) (by rw [he]; rfl) h
  | mapEntry t m k => exact good_run (s := Instr.mapEntry t (ev e m) (ev e k)) (by rw [he]; rfl) h
  | mapUpdate t m k x => exact good_unit (s := Instr.mapUpdate t (ev e m) (ev e k) (ev e x)) (by rw [he]; rfl) h
  | entryStore t m k x => exact good_unit (s := Instr.entryStore t (ev e m) (ev e k) (ev e x)) (by rw [he]; rfl) h
  | slice t x lo hi mx =>
    cases mx with
    | some m => exact good_run (s := Instr.sliceAt t (ev e x) (lo.map (ev e)) (hi.map (ev e)) (some (ev e m))) (by rw [he]; rfl) h
    | none =>
      simp only [vop] at h
      split at h
      · rename_i hu hx hl hhi
        split at h
        · rename_i inf hs
          obtain ⟨l', h', h1, h2, h3, h4, hk⟩ := h.ex
          exact good_value (by rw [he]; exact cut_run1 hu hx hl hhi hs h1 h2 h3 h4) (hk.all _ rfl)
        · exact h.elim
      · rename_i hu hx hl hhi
        obtain ⟨l', h', h1, h2, h3, h4, hk⟩ := h.ex
        exact good_value (by rw [he]; exact cut_run2 hu hx hl hhi h1 h2 h3 h4) (hk.all _ rfl)
      · exact good_run (s := Instr.sliceAt t (ev e x) (lo.map (ev e)) (hi.map (ev e)) none) (by rw [he]; rfl) h
  | convert s d x =>
    simp only [vop] at h
    split at h
    · rename_i hs hd hx
      exact good_value (by rw [he]; exact conv_run hs hd hx) h
    · exact good_run (s := convert s d (ev e x)) (by rw [he]; rfl) h
  | panic x =>
    simp only [vop] at h
    split at h
    · rename_i t v hx
      refine good_panic (v := .iface t v) ?_ h
      rw [he]
      simp [execOp, hx, Instr.panic, goPanic, Sem.run_bind, Sem.run, Result.andThen]
    · exact h.elim
  | move x => exact good_value (v := ev e x) (w' := w) (by rw [he]; rfl) h
  | assign x => exact good_value (v := ev e x) (w' := w) (by rw [he]; rfl) h
  | _ => exact gen h

/-! ## frames -/
def Rel (N : Nat) (e : Env) (a : Act) : Prop := a.defers = [] ∧ a.tmps.size = N ∧ ∀ i, a.tmps.getD i undef = e i
theorem Rel.eval {N : Nat} {e : Env} {a : Act} (h : Rel N e a) : a.eval = ev e := by
  funext x
  cases x with
  | tmp t => exact h.2.2 t
  | _ => rfl
def dstOK (N : Nat) (o : Oper) : Bool := match o.dst with | some d => Nat.blt d N | none => true
theorem Rel.put {N : Nat} {e : Env} {a : Act} (h : Rel N e a) {o : Oper} (ho : dstOK N o = true) (v : Value) : Rel N (e.putO o.dst v) (a.put o.dst v) := by
  unfold dstOK at ho
  cases hd : o.dst with
  | none => rw [hd] at ho; exact h
  | some d =>
    rw [hd] at ho
    have hlt : d < N := by simpa using ho
    refine ⟨h.1, by simpa [Act.put] using h.2.1, fun i => ?_⟩
    have hi := h.2.2 i
    have hs := h.2.1
    simp only [Act.put, Env.putO, Env.put, Array.getD_eq_getD_getElem?, Array.getElem?_setIfInBounds] at hi ⊢
    by_cases e1 : i = d
    · subst e1
      simp [hs, hlt]
    · rw [if_neg (fun h => e1 h.symm)]
      have : Nat.beq i d = false := by
        cases h : Nat.beq i d with
        | false => rfl
        | true => exact absurd (Nat.eq_of_beq_eq_true h) e1
      rw [this]
      exact hi
theorem upon_mono {P : Program} {o : Oper} {a : Act} {next next' : Act → World → Prop} {Q Q' : Exit → Act → World → Prop} (hn : ∀ a w, next a w → next' a w) (hq : ∀ e a w, Q e a w → Q' e a w) :
    ∀ r : Result Next, o.upon P a next Q r → o.upon P a next' Q' r := by
  intro r h
  cases r with
  | ok nx w' =>
    cases nx <;> first | exact hn _ _ h | exact h.elim | skip
    · refine Calls.mono h ?_
      intro e w'' h
      cases e with
      | returned v => exact hn _ _ h
      | panicked ch => exact hq _ _ _ h
      | outgrown => exact let ⟨a₀, w₀, q⟩ := h; ⟨a₀, w₀, hq _ _ _ q⟩
    · exact Rows.mono h fun v w'' h => hn _ _ h
  | halt hl w' => cases hl <;> first | exact hq _ _ _ h | exact h.elim
theorem wp_of_good {P : Program} {o : Oper} {a : Act} {w : World} {next : Act → World → Prop} {Q : Exit → Act → World → Prop} {K : Value → World → Prop} {X : List PanicEntry → World → Prop}
    (h : Good P o a w K X) (hk : ∀ v w', K v w' → next (a.put o.dst v) w') (hx : ∀ ch w', X ch w' → Q (.panic ch) a w') : o.wp P a w next Q := by
  refine upon_mono ?_ ?_ _ h
  · rintro a' w' ⟨v, rfl, hv⟩
    exact hk v w' hv
  · rintro ex a' w' ⟨rfl, hv⟩
    cases ex <;> first | exact hx _ _ hv | exact hv.elim

/-! ## regions -/
def slotOf (all : List Oper) (j : Nat) : Option Nat := (all[j]?).bind (·.dst)
def sameG (g h : Option (Nat × Bool)) : Bool :=
  match g, h with
  | none, none => true
  | some (i, x), some (j, y) => Nat.beq i j && (x == y)
  | _, _ => false
theorem sameG_eq {g h : Option (Nat × Bool)} (k : sameG g h = true) : g = h := by
  unfold sameG at k
  split at k
  · rfl
  · rename_i i x j y
    simp only [Bool.and_eq_true, beq_iff_eq] at k
    rw [Nat.eq_of_beq_eq_true k.1, k.2]
  · cases k
def vrun (P : Program) (X : List PanicEntry → Env → World → Prop) : List Oper → Env → World → (Env → World → Prop) → Prop
  | [], e, w, K => K e w
  | o :: r, e, w, K => vop P o e w (fun v w' => vrun P X r (e.putO o.dst v) w' K) (fun ch w' => X ch e w')
def undefs : List Oper → Env → Env
  | [], e => e
  | o :: r, e => undefs r (e.putO o.dst undef)
def takeG (g : Option (Nat × Bool)) : List Oper → List Oper
  | [] => []
  | o :: r => bif sameG o.guard g then o :: takeG g r else []
def dropG (g : Option (Nat × Bool)) : List Oper → List Oper
  | [] => []
  | o :: r => bif sameG o.guard g then dropG g r else o :: r
def vops (P : Program) (all : List Oper) (K : Env → World → Prop) (X : List PanicEntry → Env → World → Prop) : Nat → List Oper → Env → World → Prop
  | 0, _, _, _ => False
  | _ + 1, [], e, w => K e w
  | n + 1, o :: r, e, w =>
    match o.guard with
    | none => vop P o e w (fun v w' => vops P all K X n r (e.putO o.dst v) w') (fun ch w' => X ch e w')
    | some (j, want) =>
      match slotOf all j with
      | none => False
      | some g =>
        match e g with
        | .bool b => GuardB b want (vrun P X (o :: takeG (some (j, want)) r) (e.put g (.bool want)) w fun e' w' => vops P all K X n (dropG (some (j, want)) r) e' w')
            (vops P all K X n (dropG (some (j, want)) r) (undefs (o :: takeG (some (j, want)) r) (e.put g (.bool !want))) w)
        | _ => vops P all K X n (dropG (some (j, want)) r) (undefs (o :: takeG (some (j, want)) r) e) w
def regOK (N : Nat) (all : List Oper) : Bool :=
  all.all fun o => dstOK N o && match o.guard with
    | none => true
    | some (j, want) => match slotOf all j with
      | none => false
      | some g => all.all fun x => bif sameG x.guard (some (j, want)) then (match x.dst with | some d => !Nat.beq d g | none => true) else true
theorem takeG_drop (g : Option (Nat × Bool)) : ∀ l : List Oper, l = takeG g l ++ dropG g l
  | [] => rfl
  | o :: r => by
    have ih := takeG_drop g r
    unfold takeG dropG
    cases sameG o.guard g
    · rfl
    · simp only [cond_true, List.cons_append]; rw [← ih]
theorem takeG_same (g : Option (Nat × Bool)) : ∀ l : List Oper, ∀ o ∈ takeG g l, o.guard = g
  | [], _, h => by cases h
  | o :: r, x, h => by
    unfold takeG at h
    cases hs : sameG o.guard g <;> rw [hs] at h
    · cases h
    · rcases List.mem_cons.1 h with h | h
      · rw [h]; exact sameG_eq hs
      · exact takeG_same g r x h
theorem Env.put_same {e : Env} {g : Nat} {v : Value} (h : e g = v) : e.put g v = e := by
  funext i
  unfold Env.put
  cases hb : Nat.beq i g with
  | false => rfl
  | true => rw [Nat.eq_of_beq_eq_true hb]; exact h.symm
theorem Env.putO_ne {e : Env} {d : Option Nat} {v : Value} {g : Nat} (h : (match d with | some d => !Nat.beq d g | none => true) = true) : (e.putO d v) g = e g := by
  cases d with
  | none => rfl
  | some d =>
    simp only [Env.putO, Env.put]
    have : Nat.beq g d = false := by
      cases hb : Nat.beq g d with
      | false => rfl
      | true =>
        have := Nat.eq_of_beq_eq_true hb
        subst this
        simp at h
    rw [this]; rfl
section
variable {P : Program} {N : Nat} {opsA : Array Oper} {K : Env → World → Prop} {X : List PanicEntry → Env → World → Prop} {Q : Exit → Act → World → Prop}
theorem yielded_of {e : Env} {a : Act} (h : Rel N e a) (j g : Nat) (hg : slotOf opsA.toList j = some g) : yielded opsA a.tmps j = match e g with | .bool b => some b | _ => none := by
  have hg' : (opsA[j]?).bind (·.dst) = some g := by simpa [slotOf] using hg
  unfold yielded
  rw [hg']
  have h2 := h.2.2 g
  rw [← h2, Array.getD_eq_getD_getElem?]
  simp only [Option.bind_some]
  cases ht : a.tmps[g]? with
  | none => simp [undef]
  | some v => cases v <;> rfl
theorem wanted_of {e : Env} {a : Act} (h : Rel N e a) {o : Oper} {j g : Nat} {want : Bool} (ho : o.guard = some (j, want)) (hg : slotOf opsA.toList j = some g) :
    Region.wanted o (yielded opsA a.tmps) = match e g with | .bool b => b == want | _ => false := by
  unfold Region.wanted
  rw [ho]
  simp only [yielded_of h j g hg]
  cases e g <;> simp
def dstOf (x : Oper) (g : Nat) : Bool := match x.dst with | some d => !Nat.beq d g | none => true
theorem skip_sound (j g : Nat) (want : Bool) (hg : slotOf opsA.toList j = some g) (rest : List Oper) : ∀ (l : List Oper) (e : Env) (a : Act) (w : World), (∀ x ∈ l, x.guard = some (j, want) ∧ dstOK N x = true ∧ dstOf x g = true) → Rel N e a →
    (match e g with | .bool b => b == want | _ => false) = false → (∀ a', Rel N (undefs l e) a' → wpList P opsA Q rest a' w) → wpList P opsA Q (l ++ rest) a w := by
  intro l
  induction l with
  | nil => intro e a w _ hr _ h; exact h a hr
  | cons o l ih =>
    intro e a w hl hr hw h
    obtain ⟨ho, hd, hn⟩ := hl o List.mem_cons_self
    have hwt := wanted_of (opsA := opsA) hr ho hg
    rw [hw] at hwt
    simp only [List.cons_append, wpList, hwt]
    refine ih _ _ w (fun x hx => hl x (List.mem_cons_of_mem _ hx)) (hr.put hd undef) ?_ h
    rw [Env.putO_ne hn]
    exact hw
theorem run_sound (j g : Nat) (want : Bool) (hg : slotOf opsA.toList j = some g) (rest : List Oper) (hX : ∀ ch e w a, X ch e w → Rel N e a → Q (.panic ch) a w) : ∀ (l : List Oper) (e : Env) (a : Act) (w : World) (K : Env → World → Prop), (∀ x ∈ l, x.guard = some (j, want) ∧ dstOK N x = true ∧ dstOf x g = true) → Rel N e a →
    e g = .bool want → vrun P X l e w K → (∀ e' a' w', K e' w' → Rel N e' a' → wpList P opsA Q rest a' w') → wpList P opsA Q (l ++ rest) a w := by
  intro l
  induction l with
  | nil => intro e a w K _ hr _ h hk; exact hk _ _ _ h hr
  | cons o l ih =>
    intro e a w K hl hr hw h hk
    obtain ⟨ho, hd, hn⟩ := hl o List.mem_cons_self
    have hwt := wanted_of (opsA := opsA) hr ho hg
    rw [hw] at hwt
    simp only [beq_self_eq_true] at hwt
    simp only [List.cons_append, wpList, hwt, if_true]
    refine .inl (wp_of_good (vop_sound hr.eval h) ?_ ?_)
    · intro v w' hv
      exact ih _ _ w' K (fun x hx => hl x (List.mem_cons_of_mem _ hx)) (hr.put hd v) (by rw [Env.putO_ne hn]; exact hw) hv hk
    · intro ch w' hx
      exact hX _ _ _ _ hx hr
theorem regOK_all (hok : regOK N opsA.toList = true) : ∀ o ∈ opsA.toList, dstOK N o = true ∧ ∀ j want, o.guard = some (j, want) → ∃ g, slotOf opsA.toList j = some g ∧ ∀ x ∈ opsA.toList, x.guard = some (j, want) → dstOf x g = true := by
  intro o ho
  have h1 := List.all_eq_true.1 hok o ho
  simp only [Bool.and_eq_true] at h1
  refine ⟨h1.1, fun j want hg => ?_⟩
  have h2 := h1.2
  rw [hg] at h2
  cases hs : slotOf opsA.toList j with
  | none => simp [hs] at h2
  | some g =>
    simp only [hs] at h2
    refine ⟨g, rfl, fun x hx hxg => ?_⟩
    have h3 := List.all_eq_true.1 h2 x hx
    have h4 : sameG x.guard (some (j, want)) = true := by rw [hxg]; simp [sameG]
    rw [h4] at h3
    exact h3
theorem vops_sound (hok : regOK N opsA.toList = true) (hK : ∀ e w a, K e w → Rel N e a → Q .normal a w) (hX : ∀ ch e w a, X ch e w → Rel N e a → Q (.panic ch) a w) :
    ∀ (n : Nat) (l : List Oper) (e : Env) (w : World) (a : Act), (∀ x ∈ l, x ∈ opsA.toList) → vops P opsA.toList K X n l e w → Rel N e a → wpList P opsA Q l a w := by
  have hall := regOK_all hok
  intro n
  induction n with
  | zero => intro l e w a _ h _; exact h.elim
  | succ n ih =>
    intro l e w a hl h hr
    cases l with
    | nil => exact hK _ _ _ h hr
    | cons o r =>
      have ho := hl o List.mem_cons_self
      obtain ⟨hd, hgd⟩ := hall o ho
      cases hg : o.guard with
      | none =>
        simp only [vops, hg] at h
        have hwt : Region.wanted o (yielded opsA a.tmps) = true := by simp [Region.wanted, hg]
        simp only [wpList, hwt, if_true]
        refine .inl (wp_of_good (vop_sound hr.eval h) ?_ ?_)
        · intro v w' hv
          exact ih _ _ _ _ (fun x hx => hl x (List.mem_cons_of_mem _ hx)) hv (hr.put hd v)
        · intro ch w' hx
          exact hX _ _ _ _ hx hr
      | some jw =>
        obtain ⟨j, want⟩ := jw
        obtain ⟨g, hs, hx⟩ := hgd j want hg
        simp only [vops, hg, hs] at h
        have hsplit : o :: r = (o :: takeG (some (j, want)) r) ++ dropG (some (j, want)) r := by
          rw [List.cons_append, ← takeG_drop]
        have hgrp : ∀ x ∈ o :: takeG (some (j, want)) r, x.guard = some (j, want) ∧ dstOK N x = true ∧ dstOf x g = true := by
          intro x hx'
          have hmem : x ∈ opsA.toList := hl x (by rw [hsplit]; exact List.mem_append_left _ hx')
          have hxg : x.guard = some (j, want) := by
            rcases List.mem_cons.1 hx' with h' | h'
            · rw [h']; exact hg
            · exact takeG_same _ _ x h'
          exact ⟨hxg, (hall x hmem).1, hx x hmem hxg⟩
        have hrest : ∀ x ∈ dropG (some (j, want)) r, x ∈ opsA.toList := fun x hx' => hl x (by rw [hsplit]; exact List.mem_append_right _ hx')
        rw [hsplit]
        cases he : e g with
        | bool b =>
          simp only [he] at h
          by_cases hb : b = want
          · have h1 := h.all.1 hb
            refine run_sound j g want hs _ hX _ e a w _ hgrp hr (by rw [he, hb]) (by rw [Env.put_same (by rw [he, hb])] at h1; exact h1) ?_
            intro e' a' w' hk hr'
            exact ih _ _ _ _ hrest hk hr'
          · have hb' : b = !want := by revert hb; cases b <;> cases want <;> simp
            have h1 := h.all.2 hb'
            rw [Env.put_same (by rw [he, hb'])] at h1
            refine skip_sound j g want hs _ _ e a w hgrp hr (by rw [he, hb']; cases want <;> rfl) ?_
            intro a' hr'
            exact ih _ _ _ _ hrest h1 hr'
        | _ =>
          simp only [he] at h
          refine skip_sound j g want hs _ _ e a w hgrp hr (by rw [he]) ?_
          intro a' hr'
          exact ih _ _ _ _ hrest h hr'
end

/-! ## regions that draw their order: operations that leave the world alone, then a chain -/
def wpQ (P : Program) {α : Type} : Sem α → (α → Prop) → World → Prop
  | .pure a, K, _ => K a
  | .load _ a k, K, w => LoadS w a fun v => wpQ P (k v) K w
  | .shape r k, K, w => wpQ P (k (w.shape? r)) K w
  | .frozen a k, K, w => wpQ P (k (w.frozen? a)) K w
  | .getObj r k, K, w => GetS w r fun o => wpQ P (k o) K w
  | .program k, K, w => wpQ P (k P) K w
  | .mark _ k, K, w => wpQ P k K w
  | _, _, _ => False
theorem wpQ_S (P : Program) {α : Type} (s : Sem α) : ∀ (K : α → Prop) (w : World), wpQ P s K w → wpS P s (fun a w' => w' = w ∧ K a) w := by
  induction s with
  | pure a => intro K w h; exact ⟨rfl, h⟩
  | load m a k ih => intro K w h; obtain ⟨v, hv, hk⟩ := h.ex; exact ⟨v, hv, ih _ _ _ hk⟩
  | shape r k ih => intro K w h; exact ih _ _ _ h
  | frozen a k ih => intro K w h; exact ih _ _ _ h
  | getObj r k ih => intro K w h; obtain ⟨o, ho, hn, hk⟩ := h.ex; exact ⟨o, ho, hn, ih _ _ _ hk⟩
  | program k ih => intro K w h; exact ih _ _ _ h
  | mark m k ih => intro K w h; exact ih _ _ h
  | _ => intro K w h; exact h.elim
/-- a reading whose answer is told -/
structure RunQ (P : Program) (s : Sem Value) (w : World) (K : Value → Prop) : Prop where
  ex : ∃ v, s.run P w = .ok v w ∧ K v
def vopQ (P : Program) (o : Oper) (e : Env) (w : World) (K : Value → Prop) : Prop :=
  match o.op with
  | .call ⟨.builtin .len, args, argTypes⟩ => vbuiltin P .len ⟨.builtin .len, args, argTypes⟩ o.type (args.toList.map (ev e)) w (fun v _ => K v)
  | .call _ | .build .. | .buildSlice .. | .makeFunc .. | .makeSlice .. | .panic _ | .alloc _ | .box .. | .store .. => False
  | .move x | .assign x => K (ev e x)
  | .indexAddr t x ix =>
    match P.underlying t, ev e x, ev e ix with
    | some (.slice el), .slice A n _, .int _ i =>
      match P.info? el with
      | some inf => IdxS A n i fun b off => K (.pointer (some ⟨b, off + i.toNat * inf.size, none⟩))
      | none => False
    | some (.array n el), .pointer A, .int _ i =>
      match P.info? el with
      | some inf => IdxS A n i fun b off => K (.pointer (some ⟨b, off + i.toNat * inf.size, none⟩))
      | none => False
    | _, _, _ => False
  | .index t x ix =>
    match P.underlying t, ev e x, ev e ix with
    | some .string, .string s, .int _ i => StrS s i fun b => K (.int .u8 b)
    | _, _, _ => False
  | .slice t x lo hi none =>
    match P.underlying t, ev e x, asI (lo.map (ev e)), asI (hi.map (ev e)) with
    | some (.slice el), .slice A n c, some l, some h =>
      match P.info? el with
      | some inf => CutS n c l h fun l h => LetS (if c = l then A else A.map (·.add (l * inf.size))) fun A' => K (.slice A' (h - l) (c - l))
      | none => False
    | some .string, .string s, some l, some h => CutS s.size s.size l h fun l h => LetV (.string (s.extract l h)) fun v => K v
    | _, _, _, _ => False
  | .slice .. => False
  | .convert s d x =>
    match P.underlying s, P.underlying d, ev e x with
    | some (.int _), some (.int k), .int _ n => K (.int k (k.wrap n))
    | _, _, x => RunQ P (convert s d x) w K
  | .typeAssert x xT T ok => RunQ P (Instr.typeAssert (ev e x) xT T ok) w K
  | _ => wpQ P (execOp (ev e) o) (fun nx => match nx with | .value v => K v | _ => False) w
theorem wpS_mono (P : Program) {α : Type} (s : Sem α) : ∀ {K K' : α → World → Prop} {w : World}, (∀ a w, K a w → K' a w) → wpS P s K w → wpS P s K' w := by
  induction s with
  | pure a => intro K K' w hk h; exact hk _ _ h
  | load m a k ih => intro K K' w hk h; obtain ⟨v, hv, h⟩ := h.ex; exact ⟨v, hv, ih _ hk h⟩
  | store m a v k ih => intro K K' w hk h; obtain ⟨h1, h2, h3, h⟩ := h.ex; exact ⟨h1, h2, h3, ih hk h⟩
  | new o k ih => intro K K' w hk h; exact ⟨fun b w' hb hw => ih _ hk (h.all b w' hb hw)⟩
  | shape r k ih => intro K K' w hk h; exact ih _ hk h
  | freeze a n k ih => intro K K' w hk h; exact ih hk h
  | frozen a k ih => intro K K' w hk h; exact ih _ hk h
  | getObj r k ih => intro K K' w hk h; obtain ⟨o, h1, h2, h⟩ := h.ex; exact ⟨o, h1, h2, ih _ hk h⟩
  | setObj r o k ih => intro K K' w hk h; obtain ⟨h1, h⟩ := h.ex; exact ⟨h1, ih hk h⟩
  | choose q k ih => intro K K' w hk h; exact ⟨fun n w' hs => ih _ hk (h.all n w' hs)⟩
  | program k ih => intro K K' w hk h; exact ih _ hk h
  | mark m k ih => intro K K' w hk h; exact ih hk h
  | _ => intro K K' w hk h; exact h.elim
theorem vopQ_run {P : Program} {o : Oper} {e : Env} {w : World} {K : Value → Prop} (h : vopQ P o e w K) : ∃ v, (execOp (ev e) o).run P w = .ok (.value v) w ∧ K v := by
  have gen : wpQ P (execOp (ev e) o) (fun nx => match nx with | .value v => K v | _ => False) w → ∃ v, (execOp (ev e) o).run P w = .ok (.value v) w ∧ K v := by
    intro h
    obtain ⟨nx, w', hr, hw, hk⟩ := wpS_sound _ _ _ _ (wpQ_S P _ _ _ h)
    subst hw
    cases nx <;> first | exact ⟨_, hr, hk⟩ | exact hk.elim
  obtain ⟨dst, op, type, pos, after, guard⟩ := o
  cases op with
  | call c =>
    obtain ⟨callee, args, argTypes⟩ := c
    cases callee with
    | builtin b =>
      cases b <;> first | exact h.elim | skip
      have h : vbuiltin P .len ⟨.builtin .len, args, argTypes⟩ type (args.toList.map (ev e)) w (fun v _ => K v) := h
      unfold vbuiltin at h
      simp only at h
      split at h
      · rename_i hu hl; exact ⟨_, len_run1 hu hl, h⟩
      · rename_i hu hl; exact ⟨_, len_run2 hu hl, h⟩
      · exact h.elim
    | value f => exact h.elim
    | invoke r name => exact h.elim
  | move x => exact ⟨ev e x, rfl, h⟩
  | assign x => exact ⟨ev e x, rfl, h⟩
  | build t parts => exact h.elim
  | buildSlice t n parts => exact h.elim
  | makeFunc fn first captured => exact h.elim
  | makeSlice t l c => exact h.elim
  | panic x => exact h.elim
  | alloc t => exact h.elim
  | box t x => exact h.elim
  | store t x y => exact h.elim
  | indexAddr t x ix =>
    simp only [vopQ] at h
    split at h
    · split at h
      · rename_i hu hx hi _ inf hs
        obtain ⟨h0, h1, b', off', rfl, hk⟩ := h.ex
        exact ⟨_, idx_run hu hx hi hs h0 h1, hk⟩
      · exact h.elim
    · split at h
      · rename_i hu hx hi _ inf hs
        obtain ⟨h0, h1, b', off', rfl, hk⟩ := h.ex
        exact ⟨_, arr_run hu hx hi hs h0 h1, hk⟩
      · exact h.elim
    · exact h.elim
  | index t x ix =>
    simp only [vopQ] at h
    split at h
    · rename_i hu hx hi
      obtain ⟨⟨h0, h1⟩, hk⟩ := h.ex
      exact ⟨_, str_run hu hx hi h0 h1, hk⟩
    · exact h.elim
  | slice t x lo hi mx =>
    cases mx with
    | some m => exact h.elim
    | none =>
      simp only [vopQ] at h
      split at h
      · rename_i hu hx hl hhi
        split at h
        · rename_i inf hs
          obtain ⟨l, h', h1, h2, h3, h4, hk⟩ := h.ex
          exact ⟨_, cut_run1 hu hx hl hhi hs h1 h2 h3 h4, hk.all _ rfl⟩
        · exact h.elim
      · rename_i hu hx hl hhi
        obtain ⟨l, h', h1, h2, h3, h4, hk⟩ := h.ex
        exact ⟨_, cut_run2 hu hx hl hhi h1 h2 h3 h4, hk.all _ rfl⟩
      · exact h.elim
  | convert s d x =>
    simp only [vopQ] at h
    split at h
    · rename_i hs hd hx
      exact ⟨_, conv_run hs hd hx, h⟩
    · obtain ⟨v, hr, hk⟩ := h.ex
      exact ⟨v, val_of rfl hr, hk⟩
  | typeAssert x xT T ok =>
    obtain ⟨v, hr, hk⟩ := h.ex
    exact ⟨v, val_of rfl hr, hk⟩
  | _ => exact gen h
def vrunQ (P : Program) (w : World) : List Oper → Env → (Env → Prop) → Prop
  | [], e, K => K e
  | o :: r, e, K => vopQ P o e w fun v => vrunQ P w r (e.putO o.dst v) K
def vopsQ (P : Program) (all : List Oper) (w : World) (K : Env → Prop) : Nat → List Oper → Env → Prop
  | 0, _, _ => False
  | _ + 1, [], e => K e
  | n + 1, o :: r, e =>
    match o.guard with
    | none => vopQ P o e w fun v => vopsQ P all w K n r (e.putO o.dst v)
    | some (j, want) =>
      match slotOf all j with
      | none => False
      | some g =>
        match e g with
        | .bool b => GuardB b want (vrunQ P w (o :: takeG (some (j, want)) r) (e.put g (.bool want)) fun e' => vopsQ P all w K n (dropG (some (j, want)) r) e')
            (vopsQ P all w K n (dropG (some (j, want)) r) (undefs (o :: takeG (some (j, want)) r) (e.put g (.bool !want))))
        | _ => vopsQ P all w K n (dropG (some (j, want)) r) (undefs (o :: takeG (some (j, want)) r) e)
section
variable {P : Program} {N : Nat} {opsA : Array Oper} {w : World} {Qs : Act → Prop}
theorem still_of {o : Oper} {a : Act} {e : Env} {K : Value → Prop} {next : Act → Prop} (he : a.eval = ev e) (h : vopQ P o e w K) (hn : ∀ v, K v → next (a.put o.dst v)) : o.still P a w next := by
  obtain ⟨v, hr, hk⟩ := vopQ_run h
  unfold Oper.still
  rw [he, hr]
  exact ⟨rfl, hn v hk⟩
theorem skipQ (j g : Nat) (want : Bool) (hg : slotOf opsA.toList j = some g) (rest : List Oper) : ∀ (l : List Oper) (e : Env) (a : Act), (∀ x ∈ l, x.guard = some (j, want) ∧ dstOK N x = true ∧ dstOf x g = true) → Rel N e a →
    (match e g with | .bool b => b == want | _ => false) = false → (∀ a', Rel N (undefs l e) a' → wpStill P opsA w Qs rest a') → wpStill P opsA w Qs (l ++ rest) a := by
  intro l
  induction l with
  | nil => intro e a _ hr _ h; exact h a hr
  | cons o l ih =>
    intro e a hl hr hw h
    obtain ⟨ho, hd, hn⟩ := hl o List.mem_cons_self
    have hwt := wanted_of (opsA := opsA) hr ho hg
    rw [hw] at hwt
    simp only [List.cons_append, wpStill, hwt]
    refine ih _ _ (fun x hx => hl x (List.mem_cons_of_mem _ hx)) (hr.put hd undef) ?_ h
    rw [Env.putO_ne hn]
    exact hw
theorem runQ (j g : Nat) (want : Bool) (hg : slotOf opsA.toList j = some g) (rest : List Oper) : ∀ (l : List Oper) (e : Env) (a : Act) (K : Env → Prop), (∀ x ∈ l, x.guard = some (j, want) ∧ dstOK N x = true ∧ dstOf x g = true) → Rel N e a →
    e g = .bool want → vrunQ P w l e K → (∀ e' a', K e' → Rel N e' a' → wpStill P opsA w Qs rest a') → wpStill P opsA w Qs (l ++ rest) a := by
  intro l
  induction l with
  | nil => intro e a K _ hr _ h hk; exact hk _ _ h hr
  | cons o l ih =>
    intro e a K hl hr hw h hk
    obtain ⟨ho, hd, hn⟩ := hl o List.mem_cons_self
    have hwt := wanted_of (opsA := opsA) hr ho hg
    rw [hw] at hwt
    simp only [beq_self_eq_true] at hwt
    simp only [List.cons_append, wpStill, hwt, if_true]
    refine still_of hr.eval h ?_
    intro v hv
    exact ih _ _ K (fun x hx => hl x (List.mem_cons_of_mem _ hx)) (hr.put hd v) (by rw [Env.putO_ne hn]; exact hw) hv hk
theorem vopsQ_sound {K : Env → Prop} (hok : regOK N opsA.toList = true) (hK : ∀ e a, K e → Rel N e a → Qs a) :
    ∀ (n : Nat) (l : List Oper) (e : Env) (a : Act), (∀ x ∈ l, x ∈ opsA.toList) → vopsQ P opsA.toList w K n l e → Rel N e a → wpStill P opsA w Qs l a := by
  have hall := regOK_all hok
  intro n
  induction n with
  | zero => intro l e a _ h _; exact h.elim
  | succ n ih =>
    intro l e a hl h hr
    cases l with
    | nil => exact hK _ _ h hr
    | cons o r =>
      have ho := hl o List.mem_cons_self
      obtain ⟨hd, hgd⟩ := hall o ho
      cases hg : o.guard with
      | none =>
        simp only [vopsQ, hg] at h
        have hwt : Region.wanted o (yielded opsA a.tmps) = true := by simp [Region.wanted, hg]
        simp only [wpStill, hwt, if_true]
        exact still_of hr.eval h fun v hv => ih _ _ _ (fun x hx => hl x (List.mem_cons_of_mem _ hx)) hv (hr.put hd v)
      | some jw =>
        obtain ⟨j, want⟩ := jw
        obtain ⟨g, hs, hx⟩ := hgd j want hg
        simp only [vopsQ, hg, hs] at h
        have hsplit : o :: r = (o :: takeG (some (j, want)) r) ++ dropG (some (j, want)) r := by
          rw [List.cons_append, ← takeG_drop]
        have hgrp : ∀ x ∈ o :: takeG (some (j, want)) r, x.guard = some (j, want) ∧ dstOK N x = true ∧ dstOf x g = true := by
          intro x hx'
          have hmem : x ∈ opsA.toList := hl x (by rw [hsplit]; exact List.mem_append_left _ hx')
          have hxg : x.guard = some (j, want) := by
            rcases List.mem_cons.1 hx' with h' | h'
            · rw [h']; exact hg
            · exact takeG_same _ _ x h'
          exact ⟨hxg, (hall x hmem).1, hx x hmem hxg⟩
        have hrest : ∀ x ∈ dropG (some (j, want)) r, x ∈ opsA.toList := fun x hx' => hl x (by rw [hsplit]; exact List.mem_append_right _ hx')
        rw [hsplit]
        cases he : e g with
        | bool b =>
          simp only [he] at h
          by_cases hb : b = want
          · have h1 := h.all.1 hb
            refine runQ j g want hs _ _ e a _ hgrp hr (by rw [he, hb]) (by rw [Env.put_same (by rw [he, hb])] at h1; exact h1) ?_
            intro e' a' hk hr'
            exact ih _ _ _ hrest hk hr'
          · have hb' : b = !want := by revert hb; cases b <;> cases want <;> simp
            have h1 := h.all.2 hb'
            rw [Env.put_same (by rw [he, hb'])] at h1
            refine skipQ j g want hs _ _ e a hgrp hr (by rw [he, hb']; cases want <;> rfl) ?_
            intro a' hr'
            exact ih _ _ _ hrest h1 hr'
        | _ =>
          simp only [he] at h
          refine skipQ j g want hs _ _ e a hgrp hr (by rw [he]) ?_
          intro a' hr'
          exact ih _ _ _ hrest h hr'
end

/-! ## code -/
structure DrawS (w : World) (K : World → Prop) : Prop where
  all : ∀ w', SameW w w' → K w'
structure LoopS (N : Nat) (P : Program) (c : Code) (K : Exit → Env → World → Prop) (e : Env) (w : World) : Prop where
  sem : ∀ a, Rel N e a → (Code.loop c).wp P (fun ex a' w' => ∃ e', Rel N e' a' ∧ K ex e' w') a w
def stillK (o : Oper) : Bool :=
  match o.op with
  | .call ⟨.builtin .len, _, _⟩ => true
  | .call _ | .build .. | .buildSlice .. | .makeFunc .. | .makeSlice .. | .panic _ | .alloc _ | .box .. | .store .. | .defer _ | .go _ | .mapUpdate .. | .next .. | .range .. => false
  | _ => true
def stillN : List Oper → Nat
  | [] => 0
  | o :: r => bif stillK o then stillN r + 1 else 0
def len {α : Type} : List α → Nat
  | [] => 0
  | _ :: r => len r + 1
theorem len_eq {α : Type} : ∀ l : List α, len l = l.length
  | [] => rfl
  | _ :: r => by simp [len, len_eq r]
def eOn (i : Nat) : List Edge → Bool
  | [] => false
  | e :: r => bif Nat.beq e.on i then (bif Region.binds .any e then true else eOn i r) else eOn i r
def onesOf (i : Nat) : List Oper → Nat → Bool
  | [], _ => false
  | o :: _, 0 => eOn i o.after.toList
  | o :: r, k + 1 => bif eOn i o.after.toList then true else onesOf i r k
def sinkL : List Oper → Nat → Nat → Bool
  | _, _, 0 => true
  | [], _, _ => true
  | _ :: r, i, k + 1 => bif onesOf i r k then sinkL r (i + 1) k else false
def chainL : List Oper → Nat → Bool
  | [], _ => true
  | o :: r, p => bif eOn p o.after.toList then chainL r (p + 1) else false
/-- a drawn region that neither is all still nor ends in a chain: its order is told by hand -/
def gen (l : List Oper) : Bool :=
  bif Nat.beq (stillN l) (len l) then false else bif sinkL l 0 (stillN l) then (bif chainL (l.drop (stillN l + 1)) (stillN l) then false else true) else true
structure RegS (N : Nat) (P : Program) (id : Nat) (ops : Array Oper) (K : Exit → Env → World → Prop) (e : Env) (w : World) : Prop where
  sem : ∀ a, Rel N e a → (Code.region id ops true).wp P (fun ex a' w' => ∃ e', Rel N e' a' ∧ K ex e' w') a w
def codeOK (N : Nat) (P : Program) : Code → Bool
  | .region _ ops false => regOK N ops.toList
  | .region _ ops true => bif gen ops.toList then true else regOK N ops.toList && P.follows .mixedOrders &&
      (bif Nat.beq (stillN ops.toList) (len ops.toList) then Region.lexB .any ops else Region.lexTailB .any ops.toList.toArray (stillN ops.toList))
  | .seq x y => codeOK N P x && codeOK N P y
  | .cond _ x y => codeOK N P x && codeOK N P y
  | .block _ c | .loop c | .scope c => codeOK N P c
  | .skip | .label _ | .exit _ | .goto _ | .ret => true
  | .rangeFunc .. | .refuse _ => false
def vc (N : Nat) (P : Program) : Code → (Exit → Env → World → Prop) → Env → World → Prop
  | .skip, K, e, w => K .normal e w
  | .label _, K, e, w => K .normal e w
  | .region id ops draw, K, e, w =>
    bif draw then
      bif gen ops.toList then RegS N P id ops K e w
      else bif Nat.beq (stillN ops.toList) (len ops.toList) then DrawS w fun w1 => vopsQ P ops.toList w1 (fun e' => K .normal e' w1) (len ops.toList + 1) ops.toList e
      else DrawS w fun w1 => vopsQ P ops.toList w1 (fun e' => vops P ops.toList (K .normal) (fun ch => K (.panic ch)) (len ops.toList + 1) (ops.toList.drop (stillN ops.toList)) e' w1) (len ops.toList + 1) (ops.toList.take (stillN ops.toList)) e
    else vops P ops.toList (K .normal) (fun ch => K (.panic ch)) (len ops.toList + 1) ops.toList e w
  | .seq x y, K, e, w => vc N P x (fun ex e w => match ex with | .normal => vc N P y K e w | ex => K ex e w) e w
  | .cond c x y, K, e, w =>
    match ev e c with
    | .bool b => CondB b (vc N P x K e w) (vc N P y K e w)
    | _ => False
  | .block id c, K, e, w => vc N P c (fun ex e w => match ex with | .exit id' => bif Nat.beq id' id then K .normal e w else K (.exit id') e w | ex => K ex e w) e w
  | .loop c, K, e, w => LoopS N P c K e w
  | .exit id, K, e, w => K (.exit id) e w
  | .scope c, K, e, w => vc N P c (fun ex e w => match ex with | .goto _ => False | ex => K ex e w) e w
  | .goto l, K, e, w => K (.goto l) e w
  | .ret, K, e, w => K .ret e w
  | .rangeFunc .., _, _, _ => False
  | .refuse _, _, _, _ => False

theorem vc_sound {N : Nat} {P : Program} (c : Code) : ∀ (K : Exit → Env → World → Prop) (e : Env) (w : World) (a : Act), codeOK N P c = true → vc N P c K e w → Rel N e a →
    c.wp P (fun ex a' w' => ∃ e', Rel N e' a' ∧ K ex e' w') a w := by
  induction c with
  | skip => intro K e w a _ h hr; exact wp_skip ⟨e, hr, h⟩
  | label l => intro K e w a _ h hr; exact wp_label ⟨e, hr, h⟩
  | exit id => intro K e w a _ h hr; exact wp_exit ⟨e, hr, h⟩
  | goto l => intro K e w a _ h hr; exact wp_goto ⟨e, hr, h⟩
  | ret => intro K e w a _ h hr; exact wp_ret ⟨e, hr, h⟩
  | refuse s => intro K e w a _ h hr; exact h.elim
  | rangeFunc f ps x y _ _ => intro K e w a _ h hr; exact h.elim
  | loop c _ => intro K e w a _ h hr; exact h.sem a hr
  | seq x y ihx ihy =>
    intro K e w a ho h hr
    simp only [codeOK, Bool.and_eq_true] at ho
    refine wp_seq (wp_mono (ihx _ e w a ho.1 h hr) ?_)
    rintro ex a' w' ⟨e', hr', hk⟩
    cases ex with
    | normal => exact ihy K e' w' a' ho.2 hk hr'
    | _ => exact ⟨e', hr', hk⟩
  | cond c x y ihx ihy =>
    intro K e w a ho h hr
    simp only [codeOK, Bool.and_eq_true] at ho
    simp only [vc] at h
    split at h
    · rename_i b hb
      refine wp_cond (t := b) (by rw [hr.eval]; exact hb) ?_
      cases b
      · exact ihy K e w a ho.2 (h.all.2 rfl) hr
      · exact ihx K e w a ho.1 (h.all.1 rfl) hr
    · exact h.elim
  | block id c ih =>
    intro K e w a ho h hr
    refine wp_block (wp_mono (ih _ e w a ho h hr) ?_)
    rintro ex a' w' ⟨e', hr', hk⟩
    cases ex with
    | exit id' =>
      simp only [Exit.inBlock]
      by_cases hid : id' = id
      · subst hid
        simp only [Nat.beq_refl, cond_true] at hk
        rw [if_pos rfl]
        exact ⟨e', hr', hk⟩
      · have hb : Nat.beq id' id = false := by
          cases hb : Nat.beq id' id with
          | false => rfl
          | true => exact absurd (Nat.eq_of_beq_eq_true hb) hid
        simp only [hb, cond_false] at hk
        rw [if_neg hid]
        exact ⟨e', hr', hk⟩
    | _ => exact ⟨e', hr', hk⟩
  | scope c ih =>
    intro K e w a ho h hr
    refine wp_scope_straight (wp_mono (ih _ e w a ho h hr) ?_)
    rintro ex a' w' ⟨e', hr', hk⟩
    cases ex with
    | goto l => exact hk.elim
    | _ => exact ⟨e', hr', hk⟩
  | region id ops draw =>
    intro K e w a ho h hr
    have hK : ∀ e w a, K .normal e w → Rel N e a → (fun ex a' w' => ∃ e', Rel N e' a' ∧ K ex e' w') Exit.normal a w := fun e w a h hr => ⟨e, hr, h⟩
    have hX : ∀ ch e w a, K (.panic ch) e w → Rel N e a → (fun ex a' w' => ∃ e', Rel N e' a' ∧ K ex e' w') (Exit.panic ch) a w := fun ch e w a h hr => ⟨e, hr, h⟩
    cases draw with
    | false =>
      refine wp_region_list ?_
      exact vops_sound (K := K .normal) (X := fun ch => K (.panic ch)) ho hK hX _ ops.toList e w a (fun x hx => hx) h hr
    | true =>
      cases hgen : gen ops.toList with
      | true =>
        simp only [vc, cond_true, hgen] at h
        exact h.sem a hr
      | false =>
      simp only [codeOK, hgen, cond_false, Bool.and_eq_true] at ho
      obtain ⟨⟨ho1, ho2⟩, ho3⟩ := ho
      have hs : SameW w { w with drawn := w.drawn + 1 } := ⟨rfl, rfl, rfl, rfl⟩
      simp only [vc, cond_true, hgen, cond_false] at h
      cases hb : Nat.beq (stillN ops.toList) (len ops.toList) with
      | true =>
        simp only [hb, cond_true] at h ho3
        have h1 := h.all _ hs
        refine wp_region_still ho2 ho3 ?_
        exact vopsQ_sound (Qs := fun a' => ∃ e', Rel N e' a' ∧ K .normal e' { w with drawn := w.drawn + 1 }) ho1 (fun e a hk hr => ⟨e, hr, hk⟩) _ ops.toList e a (fun x hx => hx) h1 hr
      | false =>
        simp only [hb, cond_false] at h ho3
        have h1 := h.all _ hs
        have hA : ops = ops.toList.toArray := by simp
        rw [hA]
        refine wp_region_still_tail (l := ops.toList) (stillN ops.toList) ho2 ho3 ?_
        refine vopsQ_sound (opsA := ops.toList.toArray) (by simpa using ho1) ?_ _ (ops.toList.take (stillN ops.toList)) e a (fun x hx => by simpa using List.mem_of_mem_take hx) (by simpa using h1) hr
        intro e' a' hk hr'
        exact vops_sound (opsA := ops.toList.toArray) (K := K .normal) (X := fun ch => K (.panic ch)) (by simpa using ho1) hK hX _ (ops.toList.drop (stillN ops.toList)) e' _ a' (fun x hx => by simpa using List.mem_of_mem_drop hx) (by simpa using hk) hr'

theorem least {p : Nat → Prop} (h : ∃ n, p n) : ∃ n, p n ∧ ∀ m, p m → n ≤ m := by
  obtain ⟨n, hn⟩ := h
  induction n using Nat.strongRecOn with
  | _ n ih =>
    by_cases hx : ∃ m, m < n ∧ p m
    · obtain ⟨m, hm, hp⟩ := hx
      exact ih m hm hp
    · exact ⟨n, hn, fun m hm => Nat.le_of_not_lt fun hlt => hx ⟨m, hlt, hm⟩⟩
open Classical in
theorem LoopS.rule {N : Nat} {P : Program} {c : Code} {K : Exit → Env → World → Prop} {e : Env} {w : World} (hc : codeOK N P c = true) (I : Nat → Env → World → Prop) (n : Nat) (h0 : I n e w)
    (hb : ∀ n e w, I n e w → vc N P c (fun ex e' w' => match ex with | .normal => ∃ m, m < n ∧ I m e' w' | ex => K ex e' w') e w) : LoopS N P c K e w := by
  refine ⟨fun a hr => ?_⟩
  let J : Act → World → Nat → Prop := fun a w n => ∃ e, Rel N e a ∧ I n e w
  let μ : Act → World → Nat := fun a w => if h : ∃ n, J a w n then Classical.choose (least h) else 0
  refine wp_loop (fun a w => ∃ n, J a w n) μ ⟨n, e, hr, h0⟩ ?_
  intro a w hI
  have hμ : μ a w = Classical.choose (least hI) := dif_pos hI
  obtain ⟨⟨e, hr, hI'⟩, hl⟩ := Classical.choose_spec (least hI)
  refine wp_mono (vc_sound c _ e w a hc (hb _ e w hI') hr) ?_
  rintro ex a' w' ⟨e', hr', hk⟩
  cases ex with
  | normal =>
    obtain ⟨m, hm, hIm⟩ := hk
    have hex : ∃ n, J a' w' n := ⟨m, e', hr', hIm⟩
    refine ⟨hex, ?_⟩
    have h1 : μ a' w' = Classical.choose (least hex) := dif_pos hex
    have h2 : Classical.choose (least hex) ≤ m := (Classical.choose_spec (least hex)).2 m ⟨e', hr', hIm⟩
    omega
  | _ => exact ⟨e', hr', hk⟩

/-! ## functions -/
noncomputable def wqE (P : Program) {α : Type} (s : Sem α) : (α → Prop) → World → Prop :=
  Sem.rec (motive := fun _ => (α → Prop) → World → Prop)
    (fun a K _ => K a)
    (fun _ a _ ih K w => LoadS w a fun v => ih v K w)
    (fun _ _ _ _ _ _ _ => False)
    (fun _ _ _ _ _ => False)
    (fun r _ ih K w => ih (w.shape? r) K w)
    (fun _ _ _ _ _ _ => False)
    (fun a _ ih K w => ih (w.frozen? a) K w)
    (fun _ _ _ _ _ => False)
    (fun _ _ _ _ _ _ => False)
    (fun _ _ _ _ _ => False)
    (fun _ _ _ _ _ => False)
    (fun _ ih K w => ih P K w)
    (fun _ _ ih K w => ih K w)
    (fun _ _ _ => False) s
theorem wqE_run (P : Program) {α : Type} (s : Sem α) : ∀ (K : α → Prop) (w : World), wqE P s K w → ∃ v, s.run P w = .ok v w ∧ K v := by
  induction s with
  | pure a => intro K w h; exact ⟨a, rfl, h⟩
  | load m a k ih => intro K w h; obtain ⟨v, hv, hk⟩ := h.ex; simp only [Sem.run, hv]; exact ih _ _ _ hk
  | shape r k ih => intro K w h; exact ih _ _ _ h
  | frozen a k ih => intro K w h; exact ih _ _ _ h
  | program k ih => intro K w h; exact ih _ _ _ h
  | mark m k ih => intro K w h; exact ih _ _ h
  | _ => intro K w h; exact h.elim
/-- a result that stands in a cell -/
noncomputable def cellK (P : Program) (e : Env) (w : World) (a : Tmp) (t : TypeId) (K : Value → Prop) : Prop :=
  match e a with
  | .pointer (some ad) => wqE P (loadVar t ad) K w
  | _ => False
theorem cellK_run {P : Program} {e : Env} {w : World} {a : Tmp} {t : TypeId} {K : Value → Prop} (h : cellK P e w a t K) : ∃ ad v, e a = .pointer (some ad) ∧ (loadVar t ad).run P w = .ok v w ∧ K v := by
  unfold cellK at h
  split at h
  · rename_i ad ha
    obtain ⟨v, hv, hk⟩ := wqE_run P _ _ _ h
    exact ⟨ad, v, ha, hv, hk⟩
  · exact h.elim
noncomputable def resK (P : Program) (e : Env) (w : World) (l : List ResultVar) (K : Value → Prop) : Prop :=
  match l with
  | [] => K (.tuple #[])
  | [.tmp t] => K (e t)
  | [.tmp t, .tmp u] => K (.tuple #[e t, e u])
  | [.tmp t, .tmp u, .tmp v] => K (.tuple #[e t, e u, e v])
  | [.cell a s] => cellK P e w a s K
  | [.cell a s, .tmp t] => cellK P e w a s fun x => K (.tuple #[x, e t])
  | [.cell a s, .cell b t] => cellK P e w a s fun x => cellK P e w b t fun y => K (.tuple #[x, y])
  | [.cell a s, .tmp t, .tmp u] => cellK P e w a s fun x => K (.tuple #[x, e t, e u])
  | _ => False
theorem resK_sound {P : Program} {fn : Func} {e : Env} {w : World} {K : Value → Prop} (h : resK P e w fn.results.toList K) : ∃ v, (∀ tmps : Array Value, (∀ i, tmps.getD i undef = e i) → (results fn tmps).run P w = .ok v w) ∧ K v := by
  have hr : fn.results = fn.results.toList.toArray := by simp
  unfold resK at h
  split at h
  · rename_i hl
    refine ⟨_, fun tmps ht => ?_, h⟩
    unfold results; rw [hr, hl]; simp
  · rename_i hl
    refine ⟨_, fun tmps ht => ?_, h⟩
    unfold results; rw [hr, hl]; simp [← ht]
  · rename_i hl
    refine ⟨_, fun tmps ht => ?_, h⟩
    unfold results; rw [hr, hl]; simp [← ht]
  · rename_i hl
    refine ⟨_, fun tmps ht => ?_, h⟩
    unfold results; rw [hr, hl]; simp [← ht]
  · rename_i hl
    obtain ⟨ad, x, ha, hx, h⟩ := cellK_run h
    refine ⟨_, fun tmps ht => ?_, h⟩
    have ha := (ht _).trans ha
    rw [Array.getD_eq_getD_getElem?] at ha
    unfold results; rw [hr, hl]; simp [ha, asAddr, hx, Sem.run_bind, Result.andThen]
  · rename_i hl
    obtain ⟨ad, x, ha, hx, h⟩ := cellK_run h
    refine ⟨_, fun tmps ht => ?_, h⟩
    have ha := (ht _).trans ha
    rw [Array.getD_eq_getD_getElem?] at ha
    unfold results; rw [hr, hl]; simp [ha, asAddr, hx, Sem.run_bind, Result.andThen, ← ht]
  · rename_i hl
    obtain ⟨ad, x, ha, hx, h⟩ := cellK_run h
    obtain ⟨ad', y, ha', hy, h⟩ := cellK_run h
    refine ⟨_, fun tmps ht => ?_, h⟩
    have ha := (ht _).trans ha
    have ha' := (ht _).trans ha'
    rw [Array.getD_eq_getD_getElem?] at ha ha'
    unfold results; rw [hr, hl]; simp [ha, ha', asAddr, hx, hy, Sem.run_bind, Result.andThen]
  · rename_i hl
    obtain ⟨ad, x, ha, hx, h⟩ := cellK_run h
    refine ⟨_, fun tmps ht => ?_, h⟩
    have ha := (ht _).trans ha
    rw [Array.getD_eq_getD_getElem?] at ha
    unfold results; rw [hr, hl]; simp [ha, asAddr, hx, Sem.run_bind, Result.andThen, ← ht]
  · exact h.elim
noncomputable def retK (P : Program) (fn : Func) (R : Ending → World → Prop) : Exit → Env → World → Prop
  | .normal, e, w | .ret, e, w => resK P e w fn.results.toList fun v => R (.returned v) w
  | .panic ch, _, w => R (.panicked ch) w
  | _, _, _ => False
def start (args : List Value) : Env := fun i => match args, i with
  | [], _ => undef
  | a :: _, 0 => a
  | _ :: r, i + 1 => start r i
theorem start_eq : ∀ (l : List Value) (i : Nat), start l i = (l[i]?).getD undef
  | [], i => by simp [start]
  | a :: r, 0 => by simp [start]
  | a :: r, i + 1 => by simp [start, start_eq r i]
theorem calls_of_vc {P : Program} {f : FuncId} {fn : Func} {c : Code} {args : List Value} {w : World} {R : Ending → World → Prop} (hf : P.funcs[f]? = some fn) (hb : fn.body = some c) (hok : codeOK fn.ntmps P c = true)
    (hargs : args.length ≤ fn.ntmps) (h : vc fn.ntmps P c (retK P fn R) (start args) w) : Calls P f args.toArray w R := by
  refine calls_of_wp hf hb (wp_mono (vc_sound c _ _ _ _ hok h ⟨rfl, by simp; omega, fun i => ?_⟩) ?_)
  · rw [start_eq, Array.getD_eq_getD_getElem?, Array.getElem?_append]
    by_cases hi : i < args.length
    · simp [hi]
    · simp only [List.size_toArray, hi, if_false, Array.getElem?_replicate]
      rw [List.getElem?_eq_none (by omega)]
      split <;> rfl
  · rintro ex a' w' ⟨e', hr', hk⟩
    cases ex with
    | normal => obtain ⟨v, h1, h2⟩ := resK_sound (fn := fn) (K := fun v => R (.returned v) w') hk; exact ⟨hr'.1, v, h1 _ hr'.2.2, h2⟩
    | ret => obtain ⟨v, h1, h2⟩ := resK_sound (fn := fn) (K := fun v => R (.returned v) w') hk; exact ⟨hr'.1, v, h1 _ hr'.2.2, h2⟩
    | panic ch => exact ⟨hr'.1, hk⟩
    | exit id => exact hk.elim
    | goto l => exact hk.elim
    | outgrown => exact hk.elim
end Go.Proofs.YtjdgcgmhbhfpkaaDoorE
