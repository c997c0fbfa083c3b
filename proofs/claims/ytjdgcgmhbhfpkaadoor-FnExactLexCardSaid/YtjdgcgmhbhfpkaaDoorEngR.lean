/- The engine's conditions once more, by bare recursors: the kernel and the elaborator then reduce them to the same terms. -/
import Derived.Test.YtjdgcgmhbhfpkaaDoorEng
namespace Go.Proofs.YtjdgcgmhbhfpkaaDoorE
open Go Go.RowKit
set_option linter.unusedVariables false
set_option maxRecDepth 100000

noncomputable def wpR (P : Program) {α : Type} (s : Sem α) : (α → World → Prop) → World → Prop :=
  Sem.rec (motive := fun _ => (α → World → Prop) → World → Prop)
    (fun a K w => K a w)
    (fun _ a _ ih K w => LoadS w a fun v => ih v K w)
    (fun _ a v _ ih K w => StoreS w a v fun w' => ih K w')
    (fun o _ ih K w => NewS w o fun b w' => ih b K w')
    (fun r _ ih K w => ih (w.shape? r) K w)
    (fun a n _ ih K w => ih K (w.freeze a n))
    (fun a _ ih K w => ih (w.frozen? a) K w)
    (fun r _ ih K w => GetS w r fun o => ih o K w)
    (fun r o _ ih K w => SetS w r o fun w' => ih K w')
    (fun q _ ih K w => AskS w q fun n w' => ih n K w')
    (fun _ _ _ _ _ => False)
    (fun _ ih K w => ih P K w)
    (fun _ _ ih K w => ih K w)
    (fun _ _ _ => False) s
theorem wpR_eq (P : Program) {α : Type} (s : Sem α) : ∀ (K : α → World → Prop) (w : World), wpR P s K w = wpS P s K w := by
  induction s with
  | pure a => intro K w; rfl
  | load m a k ih => intro K w; exact congrArg (LoadS w a) (funext fun v => ih v K w)
  | store m a v k ih => intro K w; exact congrArg (StoreS w a v) (funext fun w' => ih K w')
  | new o k ih => intro K w; exact congrArg (NewS w o) (funext fun b => funext fun w' => ih b K w')
  | shape r k ih => intro K w; exact ih _ K w
  | freeze a n k ih => intro K w; exact ih K _
  | frozen a k ih => intro K w; exact ih _ K w
  | getObj r k ih => intro K w; exact congrArg (GetS w r) (funext fun o => ih o K w)
  | setObj r o k ih => intro K w; exact congrArg (SetS w r o) (funext fun w' => ih K w')
  | choose q k ih => intro K w; exact congrArg (AskS w q) (funext fun n => funext fun w' => ih n K w')
  | sys c k ih => intro K w; rfl
  | program k ih => intro K w; exact ih P K w
  | mark m k ih => intro K w; exact ih K w
  | halt h => intro K w; rfl
noncomputable def wqR (P : Program) {α : Type} (s : Sem α) : (α → Prop) → World → Prop :=
  Sem.rec (motive := fun _ => (α → Prop) → World → Prop)
    (fun a K _ => K a)
    (fun _ a _ ih K w => LoadS w a fun v => ih v K w)
    (fun _ _ _ _ _ _ _ => False)
    (fun _ _ _ _ _ => False)
    (fun r _ ih K w => ih (w.shape? r) K w)
    (fun _ _ _ _ _ _ => False)
    (fun a _ ih K w => ih (w.frozen? a) K w)
    (fun r _ ih K w => GetS w r fun o => ih o K w)
    (fun _ _ _ _ _ _ => False)
    (fun _ _ _ _ _ => False)
    (fun _ _ _ _ _ => False)
    (fun _ ih K w => ih P K w)
    (fun _ _ ih K w => ih K w)
    (fun _ _ _ => False) s
theorem wqR_eq (P : Program) {α : Type} (s : Sem α) : ∀ (K : α → Prop) (w : World), wqR P s K w = wpQ P s K w := by
  induction s with
  | load m a k ih => intro K w; exact congrArg (LoadS w a) (funext fun v => ih v K w)
  | shape r k ih => intro K w; exact ih _ K w
  | frozen a k ih => intro K w; exact ih _ K w
  | getObj r k ih => intro K w; exact congrArg (GetS w r) (funext fun o => ih o K w)
  | program k ih => intro K w; exact ih P K w
  | mark m k ih => intro K w; exact ih K w
  | _ => intro K w; rfl
def vopR (P : Program) (o : Oper) (e : Env) (w : World) (K : Value → World → Prop) (X : List PanicEntry → World → Prop) : Prop :=
  match o.op with
  | .call c => vcall P c o.type e w K X
  | .move x | .assign x => K (ev e x) w
  | .build t parts => RunS P (Instr.build t (parts.toList.map fun p => (p.1, ev e p.2)).toArray) w K
  | .buildSlice t len parts => RunS P (Instr.buildSlice t len (parts.toList.map fun p => (p.1, ev e p.2)).toArray) w K
  | .makeFunc fn first captured => K (.func fn (first.toList.map (ev e)).toArray (captured.toList.map (ev e)).toArray) w
  | .makeSlice t l c => RunS P (Instr.makeSlice t (ev e l) (ev e c)) w K
  | .typeAssert x xT T ok => RunS P (Instr.typeAssert (ev e x) xT T ok) w K
  | .indexAddr t x ix =>
    match P.underlying t, ev e x, ev e ix with
    | some (.slice el), .slice A n _, .int _ i =>
      match P.info? el with
      | some inf => IdxS A n i fun b off => K (.pointer (some ⟨b, off + i.toNat * inf.size, none⟩)) w
      | none => False
    | some (.array n el), .pointer A, .int _ i =>
      match P.info? el with
      | some inf => IdxS A n i fun b off => K (.pointer (some ⟨b, off + i.toNat * inf.size, none⟩)) w
      | none => False
    | _, _, _ => False
  | .index t x ix =>
    match P.underlying t, ev e x, ev e ix with
    | some .string, .string s, .int _ i => StrS s i fun b => K (.int .u8 b) w
    | _, x, ix => RunS P (Instr.index t x ix) w K
  | .slice t x lo hi none =>
    match P.underlying t, ev e x, asI (lo.map (ev e)), asI (hi.map (ev e)) with
    | some (.slice el), .slice A n c, some l, some h =>
      match P.info? el with
      | some inf => CutS n c l h fun l h => LetS (if c = l then A else A.map (·.add (l * inf.size))) fun A' => K (.slice A' (h - l) (c - l)) w
      | none => False
    | some .string, .string s, some l, some h => CutS s.size s.size l h fun l h => LetV (.string (s.extract l h)) fun v => K v w
    | _, x, _, _ => RunS P (Instr.sliceAt t x (lo.map (ev e)) (hi.map (ev e)) none) w K
  | .slice t x lo hi (some m) => RunS P (Instr.sliceAt t (ev e x) (lo.map (ev e)) (hi.map (ev e)) (some (ev e m))) w K
  | .makeMap t r => RunS P (Instr.makeMap t (r.map (ev e))) w K
  | .lookup t x ix ok => RunS P (Instr.lookup t (ev e x) (ev e ix) ok) w K
  | .mapEntry t m k => RunS P (Instr.mapEntry t (ev e m) (ev e k)) w K
  | .mapUpdate t m k x => RunS P (do Instr.mapUpdate t (ev e m) (ev e k) (ev e x); pure undef) w K
  | .entryStore t m k x => RunS P (do Instr.entryStore t (ev e m) (ev e k) (ev e x); pure undef) w K
  | .convert s d x =>
    match P.underlying s, P.underlying d, ev e x with
    | some (.int _), some (.int k), .int _ n => K (.int k (k.wrap n)) w
    | _, _, x => RunS P (convert s d x) w K
  | .panic x =>
    match ev e x with
    | .iface t v => X [{ v := .iface t v, recovered := false }] w
    | _ => False
  | _ => wpR P (execOp (ev e) o) (fun nx w' => match nx with | .value v => K v w' | .skip => K undef w' | _ => False) w
theorem vopR_eq (P : Program) (o : Oper) (e : Env) (w : World) (K : Value → World → Prop) (X : List PanicEntry → World → Prop) : vopR P o e w K X = vop P o e w K X := by
  unfold vopR vop; simp only [wpR_eq]; rfl
def vopQR (P : Program) (o : Oper) (e : Env) (w : World) (K : Value → Prop) : Prop :=
  match o.op with
  | .call ⟨.builtin .len, args, argTypes⟩ => vbuiltin P .len ⟨.builtin .len, args, argTypes⟩ o.type (args.toList.map (ev e)) w (fun v _ => K v)
  | .call _ | .build .. | .buildSlice .. | .makeFunc .. | .makeSlice .. | .panic _ | .alloc _ | .box .. | .store .. => False
  | .move x | .assign x => K (ev e x)
  | .indexAddr t x ix =>
    match P.underlying t, ev e x, ev e ix with
    | some (.slice el), .slice A n _, .int _ i =>
      match P.info? el with
      | some inf => IdxS A n i fun b off => K (.pointer (some ⟨b, off + i.toNat * inf.size, none⟩))
      | none => False
    | some (.array n el), .pointer A, .int _ i =>
      match P.info? el with
      | some inf => IdxS A n i fun b off => K (.pointer (some ⟨b, off + i.toNat * inf.size, none⟩))
      | none => False
    | _, _, _ => False
  | .index t x ix =>
    match P.underlying t, ev e x, ev e ix with
    | some .string, .string s, .int _ i => StrS s i fun b => K (.int .u8 b)
    | _, _, _ => False
  | .slice t x lo hi none =>
    match P.underlying t, ev e x, asI (lo.map (ev e)), asI (hi.map (ev e)) with
    | some (.slice el), .slice A n c, some l, some h =>
      match P.info? el with
      | some inf => CutS n c l h fun l h => LetS (if c = l then A else A.map (·.add (l * inf.size))) fun A' => K (.slice A' (h - l) (c - l))
      | none => False
    | some .string, .string s, some l, some h => CutS s.size s.size l h fun l h => LetV (.string (s.extract l h)) fun v => K v
    | _, _, _, _ => False
  | .slice .. => False
  | .convert s d x =>
    match P.underlying s, P.underlying d, ev e x with
    | some (.int _), some (.int k), .int _ n => K (.int k (k.wrap n))
    | _, _, x => RunQ P (convert s d x) w K
  | .typeAssert x xT T ok => RunQ P (Instr.typeAssert (ev e x) xT T ok) w K
  | _ => wqR P (execOp (ev e) o) (fun nx => match nx with | .value v => K v | _ => False) w
theorem vopQR_eq (P : Program) (o : Oper) (e : Env) (w : World) (K : Value → Prop) : vopQR P o e w K = vopQ P o e w K := by
  unfold vopQR vopQ; simp only [wqR_eq]; rfl
noncomputable def vrunR (P : Program) (X : List PanicEntry → Env → World → Prop) (l : List Oper) : Env → World → (Env → World → Prop) → Prop :=
  List.rec (motive := fun _ => Env → World → (Env → World → Prop) → Prop) (fun e w K => K e w)
    (fun o _ ih e w K => vopR P o e w (fun v w' => ih (e.putO o.dst v) w' K) (fun ch w' => X ch e w')) l
theorem vrunR_eq (P : Program) (X : List PanicEntry → Env → World → Prop) (l : List Oper) : ∀ e w K, vrunR P X l e w K = vrun P X l e w K := by
  induction l with
  | nil => intro e w K; rfl
  | cons o r ih =>
    intro e w K
    show vopR P o e w (fun v w' => vrunR P X r (e.putO o.dst v) w' K) (fun ch w' => X ch e w') = vop P o e w (fun v w' => vrun P X r (e.putO o.dst v) w' K) (fun ch w' => X ch e w')
    rw [vopR_eq]; simp only [ih]
noncomputable def vopsR (P : Program) (all : List Oper) (K : Env → World → Prop) (X : List PanicEntry → Env → World → Prop) (n : Nat) : List Oper → Env → World → Prop :=
  Nat.rec (motive := fun _ => List Oper → Env → World → Prop) (fun _ _ _ => False)
    (fun _ ih l e w =>
      match l with
      | [] => K e w
      | o :: r =>
        match o.guard with
        | none => vopR P o e w (fun v w' => ih r (e.putO o.dst v) w') (fun ch w' => X ch e w')
        | some (j, want) =>
          match slotOf all j with
          | none => False
          | some g =>
            match e g with
            | .bool b => GuardB b want (vrunR P X (o :: takeG (some (j, want)) r) (e.put g (.bool want)) w fun e' w' => ih (dropG (some (j, want)) r) e' w')
                (ih (dropG (some (j, want)) r) (undefs (o :: takeG (some (j, want)) r) (e.put g (.bool !want))) w)
            | _ => ih (dropG (some (j, want)) r) (undefs (o :: takeG (some (j, want)) r) e) w) n
theorem vopsR_eq (P : Program) (all : List Oper) (K : Env → World → Prop) (X : List PanicEntry → Env → World → Prop) (n : Nat) : ∀ l e w, vopsR P all K X n l e w = vops P all K X n l e w := by
  induction n with
  | zero => intro l e w; rfl
  | succ n ih =>
    have ih' : vopsR P all K X n = vops P all K X n := funext fun l => funext fun e => funext fun w => ih l e w
    have hr : vrunR P X = vrun P X := funext fun l => funext fun e => funext fun w => funext fun K => vrunR_eq P X l e w K
    have ho : vopR P = vop P := funext fun o => funext fun e => funext fun w => funext fun K => funext fun X => vopR_eq P o e w K X
    intro l e w
    cases l with
    | nil => rfl
    | cons o r =>
      show (match o.guard with
        | none => vopR P o e w (fun v w' => vopsR P all K X n r (e.putO o.dst v) w') (fun ch w' => X ch e w')
        | some (j, want) =>
          match slotOf all j with
          | none => False
          | some g =>
            match e g with
            | .bool b => GuardB b want (vrunR P X (o :: takeG (some (j, want)) r) (e.put g (.bool want)) w fun e' w' => vopsR P all K X n (dropG (some (j, want)) r) e' w')
                (vopsR P all K X n (dropG (some (j, want)) r) (undefs (o :: takeG (some (j, want)) r) (e.put g (.bool !want))) w)
            | _ => vopsR P all K X n (dropG (some (j, want)) r) (undefs (o :: takeG (some (j, want)) r) e) w) = _
      rw [ih', hr, ho]
      rfl
noncomputable def vrunQR (P : Program) (w : World) (l : List Oper) : Env → (Env → Prop) → Prop :=
  List.rec (motive := fun _ => Env → (Env → Prop) → Prop) (fun e K => K e) (fun o _ ih e K => vopQR P o e w fun v => ih (e.putO o.dst v) K) l
theorem vrunQR_eq (P : Program) (w : World) (l : List Oper) : ∀ e K, vrunQR P w l e K = vrunQ P w l e K := by
  induction l with
  | nil => intro e K; rfl
  | cons o r ih =>
    intro e K
    show vopQR P o e w (fun v => vrunQR P w r (e.putO o.dst v) K) = vopQ P o e w (fun v => vrunQ P w r (e.putO o.dst v) K)
    rw [vopQR_eq]; simp only [ih]
noncomputable def vopsQR (P : Program) (all : List Oper) (w : World) (K : Env → Prop) (n : Nat) : List Oper → Env → Prop :=
  Nat.rec (motive := fun _ => List Oper → Env → Prop) (fun _ _ => False)
    (fun _ ih l e =>
      match l with
      | [] => K e
      | o :: r =>
        match o.guard with
        | none => vopQR P o e w fun v => ih r (e.putO o.dst v)
        | some (j, want) =>
          match slotOf all j with
          | none => False
          | some g =>
            match e g with
            | .bool b => GuardB b want (vrunQR P w (o :: takeG (some (j, want)) r) (e.put g (.bool want)) fun e' => ih (dropG (some (j, want)) r) e')
                (ih (dropG (some (j, want)) r) (undefs (o :: takeG (some (j, want)) r) (e.put g (.bool !want))))
            | _ => ih (dropG (some (j, want)) r) (undefs (o :: takeG (some (j, want)) r) e)) n
theorem vopsQR_eq (P : Program) (all : List Oper) (w : World) (K : Env → Prop) (n : Nat) : ∀ l e, vopsQR P all w K n l e = vopsQ P all w K n l e := by
  induction n with
  | zero => intro l e; rfl
  | succ n ih =>
    have ih' : vopsQR P all w K n = vopsQ P all w K n := funext fun l => funext fun e => ih l e
    have hr : vrunQR P w = vrunQ P w := funext fun l => funext fun e => funext fun K => vrunQR_eq P w l e K
    have ho : vopQR P = vopQ P := funext fun o => funext fun e => funext fun w => funext fun K => vopQR_eq P o e w K
    intro l e
    cases l with
    | nil => rfl
    | cons o r =>
      show (match o.guard with
        | none => vopQR P o e w fun v => vopsQR P all w K n r (e.putO o.dst v)
        | some (j, want) =>
          match slotOf all j with
          | none => False
          | some g =>
            match e g with
            | .bool b => GuardB b want (vrunQR P w (o :: takeG (some (j, want)) r) (e.put g (.bool want)) fun e' => vopsQR P all w K n (dropG (some (j, want)) r) e')
                (vopsQR P all w K n (dropG (some (j, want)) r) (undefs (o :: takeG (some (j, want)) r) (e.put g (.bool !want))))
            | _ => vopsQR P all w K n (dropG (some (j, want)) r) (undefs (o :: takeG (some (j, want)) r) e)) = _
      rw [ih', hr, ho]
      rfl
/-! ## code -/
def boolOf : Value → Option Bool
  | .bool b => some b
  | _ => none
def falls : Code → Bool
  | .skip | .region .. | .label _ | .block .. | .scope _ => true
  | .seq x y => bif falls x then falls y else false
  | .cond _ x y => bif falls x then true else falls y
  | .loop _ | .exit _ | .goto _ | .ret | .rangeFunc .. | .refuse _ => false
def joins : Code → Bool
  | .cond _ x y => bif falls x then falls y else false
  | _ => false
abbrev CT := (Exit → Env → World → Prop) → Env → World → Prop
/-- a join: two ways come together here, and what stands behind it is said once -/
structure JoinS (X Y : CT) (K : Exit → Env → World → Prop) (e : Env) (w : World) : Prop where
  go : X (fun ex e w => match ex with | .normal => Y K e w | ex => K ex e w) e w
noncomputable def vcR (N : Nat) (P : Program) (c : Code) : CT :=
  Code.rec (motive := fun _ => CT)
    (skip := fun K e w => K .normal e w)
    (region := fun id ops draw K e w =>
      Bool.rec (motive := fun _ => Prop) (vopsR P ops.toList (K .normal) (fun ch => K (.panic ch)) (len ops.toList + 1) ops.toList e w)
        (Bool.rec (motive := fun _ => Prop) (Bool.rec (motive := fun _ => Prop)
          (DrawS w fun w1 => vopsQR P ops.toList w1 (fun e' => vopsR P ops.toList (K .normal) (fun ch => K (.panic ch)) (len ops.toList + 1) (ops.toList.drop (stillN ops.toList)) e' w1) (len ops.toList + 1) (ops.toList.take (stillN ops.toList)) e)
          (DrawS w fun w1 => vopsQR P ops.toList w1 (fun e' => K .normal e' w1) (len ops.toList + 1) ops.toList e)
          (Nat.beq (stillN ops.toList) (len ops.toList))) (RegS N P id ops K e w) (gen ops.toList)) draw)
    (seq := fun a _ x y K e w =>
      Bool.rec (motive := fun _ => Prop) (x (fun ex e w => match ex with | .normal => y K e w | ex => K ex e w) e w) (JoinS x y K e w) (joins a))
    (cond := fun c _ _ x y K e w => Option.rec (motive := fun _ => Prop) False (fun b => CondB b (x K e w) (y K e w)) (boolOf (ev e c)))
    (block := fun id _ c K e w => c (fun ex e w => match ex with | .exit id' => Bool.rec (motive := fun _ => Prop) (K (.exit id') e w) (K .normal e w) (Nat.beq id' id) | ex => K ex e w) e w)
    (loop := fun c _ K e w => LoopS N P c K e w)
    (rangeFunc := fun _ _ _ _ _ _ _ _ _ => False)
    (exit := fun id K e w => K (.exit id) e w)
    (scope := fun _ c K e w => c (fun ex e w => match ex with | .goto _ => False | ex => K ex e w) e w)
    (label := fun _ K e w => K .normal e w)
    (goto := fun l K e w => K (.goto l) e w)
    (ret := fun K e w => K .ret e w)
    (refuse := fun _ _ _ _ => False) c
theorem joinS_eq (X Y : CT) (K : Exit → Env → World → Prop) (e : Env) (w : World) : JoinS X Y K e w = X (fun ex e w => match ex with | .normal => Y K e w | ex => K ex e w) e w := propext ⟨fun h => h.go, fun h => ⟨h⟩⟩
theorem vcR_eq (N : Nat) (P : Program) (c : Code) : ∀ K e w, vcR N P c K e w = vc N P c K e w := by
  have hq : vopsQR P = vopsQ P := funext fun a => funext fun w => funext fun K => funext fun n => funext fun l => funext fun e => vopsQR_eq P a w K n l e
  have hs : vopsR P = vops P := funext fun a => funext fun K => funext fun X => funext fun n => funext fun l => funext fun e => funext fun w => vopsR_eq P a K X n l e w
  induction c with
  | region id ops draw =>
    intro K e w
    show Bool.rec (motive := fun _ => Prop) (vopsR P ops.toList (K .normal) (fun ch => K (.panic ch)) (len ops.toList + 1) ops.toList e w)
        (Bool.rec (motive := fun _ => Prop) (Bool.rec (motive := fun _ => Prop)
          (DrawS w fun w1 => vopsQR P ops.toList w1 (fun e' => vopsR P ops.toList (K .normal) (fun ch => K (.panic ch)) (len ops.toList + 1) (ops.toList.drop (stillN ops.toList)) e' w1) (len ops.toList + 1) (ops.toList.take (stillN ops.toList)) e)
          (DrawS w fun w1 => vopsQR P ops.toList w1 (fun e' => K .normal e' w1) (len ops.toList + 1) ops.toList e)
          (Nat.beq (stillN ops.toList) (len ops.toList))) (RegS N P id ops K e w) (gen ops.toList)) draw = _
    rw [hq, hs]
    cases draw with
    | false => rfl
    | true =>
      show _ = (bif gen ops.toList then RegS N P id ops K e w else bif Nat.beq (stillN ops.toList) (len ops.toList) then DrawS w fun w1 => vopsQ P ops.toList w1 (fun e' => K .normal e' w1) (len ops.toList + 1) ops.toList e
        else DrawS w fun w1 => vopsQ P ops.toList w1 (fun e' => vops P ops.toList (K .normal) (fun ch => K (.panic ch)) (len ops.toList + 1) (ops.toList.drop (stillN ops.toList)) e' w1) (len ops.toList + 1) (ops.toList.take (stillN ops.toList)) e)
      cases gen ops.toList <;> cases Nat.beq (stillN ops.toList) (len ops.toList) <;> rfl
  | seq x y ihx ihy =>
    intro K e w
    have hx : vcR N P x = vc N P x := funext fun K => funext fun e => funext fun w => ihx K e w
    have hy : vcR N P y = vc N P y := funext fun K => funext fun e => funext fun w => ihy K e w
    show Bool.rec (motive := fun _ => Prop) (vcR N P x (fun ex e w => match ex with | .normal => vcR N P y K e w | ex => K ex e w) e w) (JoinS (vcR N P x) (vcR N P y) K e w) (joins x) = _
    rw [hx, hy]
    cases joins x
    · rfl
    · exact joinS_eq _ _ _ _ _
  | cond c x y ihx ihy =>
    intro K e w
    have hx : vcR N P x = vc N P x := funext fun K => funext fun e => funext fun w => ihx K e w
    have hy : vcR N P y = vc N P y := funext fun K => funext fun e => funext fun w => ihy K e w
    show Option.rec (motive := fun _ => Prop) False (fun b => CondB b (vcR N P x K e w) (vcR N P y K e w)) (boolOf (ev e c)) = (match ev e c with | .bool b => CondB b (vc N P x K e w) (vc N P y K e w) | _ => False)
    rw [hx, hy]
    cases ev e c <;> rfl
  | block id c ih =>
    intro K e w
    show vcR N P c (fun ex e w => match ex with | .exit id' => Bool.rec (motive := fun _ => Prop) (K (.exit id') e w) (K .normal e w) (Nat.beq id' id) | ex => K ex e w) e w = _
    rw [ih]
    show _ = vc N P c (fun ex e w => match ex with | .exit id' => bif Nat.beq id' id then K .normal e w else K (.exit id') e w | ex => K ex e w) e w
    congr 1
    funext ex e w
    cases ex with
    | exit id' => show Bool.rec (motive := fun _ => Prop) _ _ (Nat.beq id' id) = _; simp only; cases Nat.beq id' id <;> rfl
    | _ => rfl
  | scope c ih =>
    intro K e w
    show vcR N P c (fun ex e w => match ex with | .goto _ => False | ex => K ex e w) e w = _
    rw [ih]; rfl
  | _ => intros; rfl

theorem wpR_mono (P : Program) {α : Type} (s : Sem α) {K K' : α → World → Prop} {w : World} (hk : ∀ a w, K a w → K' a w) (h : wpR P s K w) : wpR P s K' w := by
  rw [wpR_eq] at h ⊢
  exact wpS_mono P s hk h
theorem CallS.mono {P : Program} {f : FuncId} {as : List Value} {w : World} {K K' : Value → World → Prop} {X X' : List PanicEntry → World → Prop} (hk : ∀ v w, K v w → K' v w) (hx : ∀ c w, X c w → X' c w) (h : CallS P f as w K X) : CallS P f as w K' X' :=
  match h.ex with
  | .inl ⟨hok, hgo⟩ => CallS.mk hok (hgo.mono fun e w' q => by cases e <;> first | exact hk _ _ q | exact hx _ _ q | exact q)
  | .inr ⟨_, _, hr, q⟩ => CallS.ext hr (hk _ _ q)
theorem RunS.mono {P : Program} {s : Sem Value} {w : World} {K K' : Value → World → Prop} (hk : ∀ v w, K v w → K' v w) (h : RunS P s w K) : RunS P s w K' := by
  obtain ⟨v, w', hr, k⟩ := h.ex
  exact ⟨v, w', hr, hk _ _ k⟩
theorem vop_mono {P : Program} {o : Oper} {e : Env} {w : World} {K K' : Value → World → Prop} {X X' : List PanicEntry → World → Prop} (hk : ∀ v w, K v w → K' v w) (hx : ∀ c w, X c w → X' c w) (h : vop P o e w K X) : vop P o e w K' X' := by
  have gen : ∀ o : Oper, wpS P (execOp (ev e) o) (fun nx w' => match nx with | .value v => K v w' | .skip => K undef w' | _ => False) w → wpS P (execOp (ev e) o) (fun nx w' => match nx with | .value v => K' v w' | .skip => K' undef w' | _ => False) w := by
    intro o
    refine wpS_mono P _ fun nx w' q => ?_
    cases nx <;> first | exact hk _ _ q | exact q
  obtain ⟨dst, op, type, pos, after, guard⟩ := o
  cases op with
  | call c =>
    obtain ⟨callee, args, argTypes⟩ := c
    cases callee with
    | value f =>
      simp only [vop, vcall] at h ⊢
      split at h
      · exact h.mono hk hx
      · exact h.elim
    | builtin b =>
      simp only [vop, vcall] at h ⊢
      unfold vbuiltin at h ⊢
      cases b <;> simp only at h ⊢ <;> first | exact h.mono hk | exact h.elim | skip
      split at h
      · exact hk _ _ h
      · exact hk _ _ h
      · exact h.elim
    | invoke r name =>
      simp only [vop, vcall] at h ⊢
      split at h
      · obtain ⟨f, r, h1, h2⟩ := h.ex
        exact ⟨f, r, h1, h2.mono hk hx⟩
      · exact h.elim
  | move x => exact hk _ _ h
  | assign x => exact hk _ _ h
  | build t parts => exact RunS.mono hk h
  | buildSlice t n parts => exact RunS.mono hk h
  | makeFunc fn first captured => exact hk _ _ h
  | makeSlice t l c => exact RunS.mono hk h
  | typeAssert x xT T ok => exact RunS.mono hk h
  | makeMap t r => exact RunS.mono hk h
  | lookup t x ix ok => exact RunS.mono hk h
  | mapEntry t m k => exact RunS.mono hk h
  | mapUpdate t m k x => exact RunS.mono hk h
  | entryStore t m k x => exact RunS.mono hk h
  | indexAddr t x ix =>
    simp only [vop] at h ⊢
    split at h
    · split at h
      · obtain ⟨h0, h1, b, off, hA, q⟩ := h.ex
        exact ⟨h0, h1, b, off, hA, hk _ _ q⟩
      · exact h.elim
    · split at h
      · obtain ⟨h0, h1, b, off, hA, q⟩ := h.ex
        exact ⟨h0, h1, b, off, hA, hk _ _ q⟩
      · exact h.elim
    · exact h.elim
  | index t x ix =>
    simp only [vop] at h ⊢
    split at h
    · obtain ⟨hh, q⟩ := h.ex
      exact ⟨hh, hk _ _ q⟩
    · exact RunS.mono hk h
  | slice t x lo hi mx =>
    cases mx with
    | some m => exact RunS.mono hk h
    | none =>
      simp only [vop] at h ⊢
      split at h
      · split at h
        · obtain ⟨l, m, h1, h2, h3, h4, q⟩ := h.ex
          exact ⟨l, m, h1, h2, h3, h4, ⟨fun A' hA' => hk _ _ (q.all A' hA')⟩⟩
        · exact h.elim
      · obtain ⟨l, m, h1, h2, h3, h4, q⟩ := h.ex
        exact ⟨l, m, h1, h2, h3, h4, ⟨fun A' hA' => hk _ _ (q.all A' hA')⟩⟩
      · exact RunS.mono hk h
  | convert s d x =>
    simp only [vop] at h ⊢
    split at h
    · exact hk _ _ h
    · exact RunS.mono hk h
  | panic x =>
    simp only [vop] at h ⊢
    split at h
    · exact hx _ _ h
    · exact h.elim
  | _ => exact gen _ h
theorem vrun_mono {P : Program} {X X' : List PanicEntry → Env → World → Prop} (hx : ∀ c e w, X c e w → X' c e w) (l : List Oper) : ∀ (e : Env) (w : World) {K K' : Env → World → Prop}, (∀ e w, K e w → K' e w) → vrun P X l e w K → vrun P X' l e w K' := by
  induction l with
  | nil => intro e w K K' hk h; exact hk _ _ h
  | cons o r ih => intro e w K K' hk h; exact vop_mono (fun v w' q => ih _ _ hk q) (fun c w q => hx c _ w q) h
theorem vops_mono {P : Program} {all : List Oper} {K K' : Env → World → Prop} {X X' : List PanicEntry → Env → World → Prop} (hk : ∀ e w, K e w → K' e w) (hx : ∀ c e w, X c e w → X' c e w) (n : Nat) : ∀ (l : List Oper) (e : Env) (w : World), vops P all K X n l e w → vops P all K' X' n l e w := by
  induction n with
  | zero => intro l e w h; exact h.elim
  | succ n ih =>
    intro l e w h
    cases l with
    | nil => exact hk _ _ h
    | cons o r =>
      simp only [vops] at h ⊢
      split at h
      · exact vop_mono (fun v w' q => ih _ _ _ q) (fun c w q => hx c _ w q) h
      · split at h
        · exact h.elim
        · split at h
          · exact ⟨fun q => vrun_mono hx _ _ _ (fun e w q => ih _ _ _ q) (h.all.1 q), fun q => ih _ _ _ (h.all.2 q)⟩
          · exact ih _ _ _ h
theorem vopsR_mono {P : Program} {all : List Oper} {K K' : Env → World → Prop} {X X' : List PanicEntry → Env → World → Prop} {n : Nat} {l : List Oper} {e : Env} {w : World} (hk : ∀ e w, K e w → K' e w) (hx : ∀ c e w, X c e w → X' c e w) (h : vopsR P all K X n l e w) : vopsR P all K' X' n l e w := by
  rw [vopsR_eq] at h ⊢
  exact vops_mono hk hx n l e w h
/-- a region's end, said once: all its ways come to J, and from J it goes on once -/
theorem cutR {P : Program} {all : List Oper} {K : Env → World → Prop} {X : List PanicEntry → Env → World → Prop} {n : Nat} {l : List Oper} {e : Env} {w : World} (J : Env → World → Prop) (h : vopsR P all J X n l e w) (k : ∀ e w, J e w → K e w) : vopsR P all K X n l e w :=
  vopsR_mono k (fun _ _ _ q => q) h
theorem LoopS.mono {N : Nat} {P : Program} {c : Code} {K K' : Exit → Env → World → Prop} {e : Env} {w : World} (h : LoopS N P c K e w) (hk : ∀ ex e w, K ex e w → K' ex e w) : LoopS N P c K' e w :=
  ⟨fun a hr => wp_mono (h.sem a hr) fun ex a' w' ⟨e', hr', k⟩ => ⟨e', hr', hk ex e' w' k⟩⟩
theorem wpQ_mono (P : Program) {α : Type} (s : Sem α) : ∀ {K K' : α → Prop} {w : World}, (∀ a, K a → K' a) → wpQ P s K w → wpQ P s K' w := by
  induction s with
  | pure a => intro K K' w hk h; exact hk _ h
  | load m a k ih => intro K K' w hk h; obtain ⟨v, hv, h⟩ := h.ex; exact ⟨v, hv, ih _ hk h⟩
  | shape r k ih => intro K K' w hk h; exact ih _ hk h
  | frozen a k ih => intro K K' w hk h; exact ih _ hk h
  | getObj r k ih => intro K K' w hk h; obtain ⟨o, h1, h2, h⟩ := h.ex; exact ⟨o, h1, h2, ih _ hk h⟩
  | program k ih => intro K K' w hk h; exact ih _ hk h
  | mark m k ih => intro K K' w hk h; exact ih hk h
  | _ => intro K K' w hk h; exact h.elim
theorem vopQ_mono {P : Program} {o : Oper} {e : Env} {w : World} {K K' : Value → Prop} (hk : ∀ v, K v → K' v) (h : vopQ P o e w K) : vopQ P o e w K' := by
  have gen : ∀ o : Oper, wpQ P (execOp (ev e) o) (fun nx => match nx with | .value v => K v | _ => False) w → wpQ P (execOp (ev e) o) (fun nx => match nx with | .value v => K' v | _ => False) w := by
    intro o
    refine wpQ_mono P _ fun nx q => ?_
    cases nx <;> first | exact hk _ q | exact q
  obtain ⟨dst, op, type, pos, after, guard⟩ := o
  cases op with
  | call c =>
    obtain ⟨callee, args, argTypes⟩ := c
    cases callee with
    | builtin b =>
      cases b <;> first | exact h.elim | skip
      have h : vbuiltin P .len ⟨.builtin .len, args, argTypes⟩ type (args.toList.map (ev e)) w (fun v _ => K v) := h
      show vbuiltin P .len ⟨.builtin .len, args, argTypes⟩ type (args.toList.map (ev e)) w (fun v _ => K' v)
      unfold vbuiltin at h ⊢
      simp only at h ⊢
      split at h
      · exact hk _ h
      · exact hk _ h
      · exact h.elim
    | value f => exact h.elim
    | invoke r name => exact h.elim
  | move x => exact hk _ h
  | assign x => exact hk _ h
  | build t parts => exact h.elim
  | buildSlice t n parts => exact h.elim
  | makeFunc fn first captured => exact h.elim
  | makeSlice t l c => exact h.elim
  | panic x => exact h.elim
  | alloc t => exact h.elim
  | box t x => exact h.elim
  | store t x y => exact h.elim
  | indexAddr t x ix =>
    simp only [vopQ] at h ⊢
    split at h
    · split at h
      · obtain ⟨h0, h1, b, off, hA, q⟩ := h.ex
        exact ⟨h0, h1, b, off, hA, hk _ q⟩
      · exact h.elim
    · split at h
      · obtain ⟨h0, h1, b, off, hA, q⟩ := h.ex
        exact ⟨h0, h1, b, off, hA, hk _ q⟩
      · exact h.elim
    · exact h.elim
  | index t x ix =>
    simp only [vopQ] at h ⊢
    split at h
    · obtain ⟨hh, q⟩ := h.ex
      exact ⟨hh, hk _ q⟩
    · exact h.elim
  | slice t x lo hi mx =>
    cases mx with
    | some m => exact h.elim
    | none =>
      simp only [vopQ] at h ⊢
      split at h
      · split at h
        · obtain ⟨l, m, h1, h2, h3, h4, q⟩ := h.ex
          exact ⟨l, m, h1, h2, h3, h4, ⟨fun A' hA' => hk _ (q.all A' hA')⟩⟩
        · exact h.elim
      · obtain ⟨l, m, h1, h2, h3, h4, q⟩ := h.ex
        exact ⟨l, m, h1, h2, h3, h4, ⟨fun A' hA' => hk _ (q.all A' hA')⟩⟩
      · exact h.elim
  | convert s d x =>
    simp only [vopQ] at h ⊢
    split at h
    · exact hk _ h
    · obtain ⟨v, hr, q⟩ := h.ex
      exact ⟨v, hr, hk _ q⟩
  | typeAssert x xT T ok =>
    obtain ⟨v, hr, q⟩ := h.ex
    exact ⟨v, hr, hk _ q⟩
  | _ => exact gen _ h
theorem vrunQ_mono {P : Program} {w : World} (l : List Oper) : ∀ (e : Env) {K K' : Env → Prop}, (∀ e, K e → K' e) → vrunQ P w l e K → vrunQ P w l e K' := by
  induction l with
  | nil => intro e K K' hk h; exact hk _ h
  | cons o r ih => intro e K K' hk h; exact vopQ_mono (fun v q => ih _ hk q) h
theorem vopsQ_mono {P : Program} {all : List Oper} {w : World} {K K' : Env → Prop} (hk : ∀ e, K e → K' e) (n : Nat) : ∀ (l : List Oper) (e : Env), vopsQ P all w K n l e → vopsQ P all w K' n l e := by
  induction n with
  | zero => intro l e h; exact h.elim
  | succ n ih =>
    intro l e h
    cases l with
    | nil => exact hk _ h
    | cons o r =>
      simp only [vopsQ] at h ⊢
      split at h
      · exact vopQ_mono (fun v q => ih _ _ q) h
      · split at h
        · exact h.elim
        · split at h
          · exact ⟨fun q => vrunQ_mono _ _ (fun e q => ih _ _ q) (h.all.1 q), fun q => ih _ _ (h.all.2 q)⟩
          · exact ih _ _ h
theorem vc_mono {N : Nat} {P : Program} (c : Code) : ∀ {K K' : Exit → Env → World → Prop} {e : Env} {w : World}, (∀ ex e w, K ex e w → K' ex e w) → vc N P c K e w → vc N P c K' e w := by
  induction c with
  | region id ops draw =>
    intro K K' e w hk h
    cases draw with
    | true =>
      simp only [vc, cond_true] at h ⊢
      cases hgen : gen ops.toList <;> rw [hgen] at h <;> simp only [cond_true, cond_false] at h ⊢
      case true => exact ⟨fun a hr => wp_mono (h.sem a hr) fun ex a' w' q => q.imp fun e' q => ⟨q.1, hk _ _ _ q.2⟩⟩
      cases hb : Nat.beq (stillN ops.toList) (len ops.toList) <;> rw [hb] at h <;> simp only [cond_true, cond_false] at h ⊢
      · exact ⟨fun w1 hw1 => vopsQ_mono (fun e' q => vops_mono (fun e w q => hk _ _ _ q) (fun c e w q => hk _ _ _ q) _ _ _ _ q) _ _ _ (h.all w1 hw1)⟩
      · exact ⟨fun w1 hw1 => vopsQ_mono (fun e' q => hk _ _ _ q) _ _ _ (h.all w1 hw1)⟩
    | false => exact vops_mono (fun e w q => hk _ _ _ q) (fun c e w q => hk _ _ _ q) _ _ _ _ h
  | seq x y ihx ihy =>
    intro K K' e w hk h
    refine ihx ?_ h
    intro ex e w q
    cases ex <;> first | exact ihy hk q | exact hk _ _ _ q
  | cond c x y ihx ihy =>
    intro K K' e w hk h
    simp only [vc] at h ⊢
    split at h
    · exact ⟨fun q => ihx hk (h.all.1 q), fun q => ihy hk (h.all.2 q)⟩
    · exact h.elim
  | block id c ih =>
    intro K K' e w hk h
    refine ih ?_ h
    intro ex e w q
    cases ex with
    | exit id' =>
      simp only at q ⊢
      cases hb : Nat.beq id' id <;> rw [hb] at q <;> exact hk _ _ _ q
    | _ => exact hk _ _ _ q
  | loop c ih => intro K K' e w hk h; exact LoopS.mono h hk
  | scope c ih =>
    intro K K' e w hk h
    refine ih ?_ h
    intro ex e w q
    cases ex <;> first | exact q | exact hk _ _ _ q
  | rangeFunc f ps a b => intro K K' e w hk h; exact h.elim
  | refuse m => intro K K' e w hk h; exact h.elim
  | _ => intro K K' e w hk h; exact hk _ _ _ h
/-- from both ways to J, and from J on -/
theorem joinJ {N : Nat} {P : Program} {c : Code} {Y : CT} {K : Exit → Env → World → Prop} {e : Env} {w : World} (J : Env → World → Prop) (h : vcR N P c (fun ex e w => match ex with | .normal => J e w | ex => K ex e w) e w) (k : ∀ e w, J e w → Y K e w) : JoinS (vcR N P c) Y K e w := by
  refine ⟨?_⟩
  rw [vcR_eq] at h ⊢
  refine vc_mono c ?_ h
  intro ex e w q
  cases ex <;> first | exact k e w q | exact q
theorem loopR {N : Nat} {P : Program} {c : Code} {K : Exit → Env → World → Prop} {e : Env} {w : World} (hc : codeOK N P c = true) (I : Nat → Env → World → Prop) (n : Nat) (h0 : I n e w)
    (hb : ∀ n e w, I n e w → vcR N P c (fun ex e' w' => match ex with | .normal => ∃ m, m < n ∧ I m e' w' | ex => K ex e' w') e w) : LoopS N P c K e w :=
  LoopS.rule hc I n h0 fun n e w hI => by
    have h := hb n e w hI
    rw [vcR_eq] at h
    exact h
theorem loopJ {N : Nat} {P : Program} {c : Code} {K : Exit → Env → World → Prop} {e : Env} {w : World} (hc : codeOK N P c = true) (I : Nat → Env → World → Prop) (J : Nat → Env → World → Prop) (n : Nat) (h0 : I n e w)
    (hb : ∀ n e w, I n e w → vcR N P c (fun ex e' w' => match ex with | .normal => ∃ m, m < n ∧ I m e' w' | .exit id => J id e' w' | ex => K ex e' w') e w)
    (hj : ∀ id e w, J id e w → K (.exit id) e w) : LoopS N P c K e w := by
  refine LoopS.mono (K := fun ex e w => match ex with | .exit id => J id e w | ex => K ex e w) (loopR hc I n h0 ?_) ?_
  · intro n e w hI
    have h := hb n e w hI
    refine cast ?_ h
    congr 1
    funext ex e' w'
    cases ex <;> rfl
  · intro ex e w h
    cases ex <;> first | exact h | exact hj _ _ _ h
theorem calls_of_vcR {P : Program} {f : FuncId} {fn : Func} {c : Code} {args : List Value} {w : World} {R : Ending → World → Prop} (hf : P.funcs[f]? = some fn) (hb : fn.body = some c) (hok : codeOK fn.ntmps P c = true)
    (hargs : args.length ≤ fn.ntmps) (h : vcR fn.ntmps P c (retK P fn R) (start args) w) : Calls P f args.toArray w R :=
  calls_of_vc hf hb hok hargs (vcR_eq _ _ _ _ _ _ ▸ h)
end Go.Proofs.YtjdgcgmhbhfpkaaDoorE
