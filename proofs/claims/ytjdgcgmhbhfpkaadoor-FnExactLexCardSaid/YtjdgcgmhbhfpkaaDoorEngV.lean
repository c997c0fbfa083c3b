/- The engine's conditions with the numbers' steps told apart: sums, quotients, bits, tests, so that a walk can say of each what it comes to. No condition of the laws stands here. -/
import Derived.Test.YtjdgcgmhbhfpkaaDoorEngR
import Derived.Laws.Entries
namespace Go.Proofs.YtjdgcgmhbhfpkaaDoorE
open Go Go.RowKit
set_option linter.unusedVariables false
set_option maxRecDepth 100000
set_option linter.unusedSimpArgs false

def kNo : IntKind → Nat
  | .i8 => 0 | .i16 => 1 | .i32 => 2 | .i64 => 3 | .u8 => 4 | .u16 => 5 | .u32 => 6 | .u64 => 7
theorem kNo_inj {j k : IntKind} (h : Nat.beq (kNo j) (kNo k) = true) : j = k := by cases j <;> cases k <;> first | rfl | (cases h)
structure ArS (k : IntKind) (x : Int) (K : Int → Prop) : Prop where
  all : K (k.wrap x)
structure DivS (k : IntKind) (x y : Int) (K : Int → Prop) : Prop where
  ex : y ≠ 0 ∧ K (k.wrap (x.tdiv y))
structure RemS (x y : Int) (K : Int → Prop) : Prop where
  ex : y ≠ 0 ∧ K (x.tmod y)
structure BitS (op : BinOp) (k : IntKind) (x y : Int) (K : Int → Prop) : Prop where
  all : K (bits op k x y)
structure ShlS (k : IntKind) (x y : Int) (K : Int → Prop) : Prop where
  ex : 0 ≤ y ∧ K (k.wrap (x * 2 ^ (min y.toNat k.bits)))
structure ShrS (k : IntKind) (x y : Int) (K : Int → Prop) : Prop where
  ex : 0 ≤ y ∧ K (x.fdiv (2 ^ (min y.toNat k.bits)))
structure StrE (s t : ByteArray) (K : Bool → Prop) : Prop where
  all : K (s.toList == t.toList)
def vint (op : BinOp) (k : IntKind) (x y : Int) (K : Value → Prop) : Prop :=
  match op with
  | .add => ArS k (x + y) fun r => K (.int k r)
  | .sub => ArS k (x - y) fun r => K (.int k r)
  | .mul => ArS k (x * y) fun r => K (.int k r)
  | .quo => DivS k x y fun r => K (.int k r)
  | .rem => RemS x y fun r => K (.int k r)
  | .and => BitS .and k x y fun r => K (.int k r)
  | .or => BitS .or k x y fun r => K (.int k r)
  | .xor => BitS .xor k x y fun r => K (.int k r)
  | .andNot => BitS .andNot k x y fun r => K (.int k r)
  | .shl => ShlS k x y fun r => K (.int k r)
  | .shr => ShrS k x y fun r => K (.int k r)
  | .eql => K (.bool (decide (x = y)))
  | .neq => K (.bool (decide (x ≠ y)))
  | .lss => K (.bool (decide (x < y)))
  | .leq => K (.bool (decide (x ≤ y)))
  | .gtr => K (.bool (decide (x > y)))
  | .geq => K (.bool (decide (x ≥ y)))
def isSh : BinOp → Bool
  | .shl | .shr => true
  | _ => false
def vbin (op : BinOp) (a b : Value) (D : Prop) (K : Value → Prop) : Prop :=
  match a, b with
  | .int k x, .int k' y => Bool.rec (motive := fun _ => Prop) (Bool.rec (motive := fun _ => Prop) D (vint op k x y K) (Nat.beq (kNo k) (kNo k'))) (vint op k x y K) (isSh op)
  | .string s, .string t => (match op with | .eql => StrE s t fun b => K (.bool b) | .neq => StrE s t fun b => K (.bool (!b)) | _ => D)
  | _, _ => D
theorem bne_decide (x y : Int) : (x != y) = decide (x ≠ y) := by by_cases h : x = y <;> simp [h]
theorem beq_decide (x y : Int) : (x == y) = decide (x = y) := by by_cases h : x = y <;> simp [h]
section
variable {W : Sem Next → Prop} {F : Next → Prop} {t : TypeId} {X Y : Operand}
abbrev binW (W : Sem Next → Prop) (op : BinOp) (t : TypeId) (X Y : Operand) (a b : Value) : Prop :=
  W (do let r ← (do eqGuard op t X Y a b; binOp op t a b); pure (Next.value r))
theorem eqG {k k' : IntKind} {x y : Int} (op : BinOp) : eqGuard op t X Y (.int k x) (.int k' y) = pure () := by cases op <;> rfl
theorem eqGs {s u : ByteArray} (op : BinOp) : eqGuard op t X Y (.string s) (.string u) = pure () := by cases op <;> rfl
theorem binW_ok (hp : ∀ nx, W (Sem.pure nx) = F nx) {op : BinOp} {a b v : Value} (g : eqGuard op t X Y a b = pure ()) (h : binOp op t a b = pure v) : binW W op t X Y a b = F (.value v) := by unfold binW; rw [g, h]; exact hp _
theorem binW_no (hh : ∀ m, W (do let r ← (runtimePanic (.error m) : Sem Value); pure (Next.value r)) = False) {op : BinOp} {a b : Value} {m : String} (g : eqGuard op t X Y a b = pure ()) (h : binOp op t a b = runtimePanic (.error m)) : binW W op t X Y a b = False := by unfold binW; rw [g, h]; exact hh _
theorem vint_sh (hp : ∀ nx, W (Sem.pure nx) = F nx) (hh : ∀ m, W (do let r ← (runtimePanic (.error m) : Sem Value); pure (Next.value r)) = False) {k k' : IntKind} {x y : Int} (op : BinOp) (h : isSh op = true) : vint op k x y (fun v => F (.value v)) = binW W op t X Y (.int k x) (.int k' y) := by
  have no : y < 0 → ∃ m, Op.shift op k x k' y = runtimePanic (.error m) := fun hy => by
    unfold Op.shift; rw [if_pos hy]; exact ⟨_, rfl⟩
  have yes : ¬ y < 0 → Op.shift op k x k' y = pure (.int k (match op with | .shl => k.wrap (x * 2 ^ (min y.toNat k.bits)) | _ => x.fdiv (2 ^ (min y.toNat k.bits)))) := fun hy => by
    unfold Op.shift; rw [if_neg hy]; cases op <;> first | (cases h; done) | rfl
  have same : binOp op t (.int k x) (.int k' y) = Op.shift op k x k' y := by cases op <;> first | (cases h; done) | rfl
  by_cases hy : y < 0
  · obtain ⟨q, hq⟩ := no hy
    rw [binW_no hh (eqG op) (same.trans hq)]
    cases op <;> first | (cases h; done) | exact propext ⟨fun q => absurd q.ex.1 (by omega), fun q => q.elim⟩
  · rw [binW_ok hp (eqG op) (same.trans (yes hy))]
    cases op <;> first | (cases h; done) | exact propext ⟨fun q => q.ex.2, fun q => ⟨by omega, q⟩⟩
theorem vint_same (hp : ∀ nx, W (Sem.pure nx) = F nx) (hh : ∀ m, W (do let r ← (runtimePanic (.error m) : Sem Value); pure (Next.value r)) = False) {k : IntKind} {x y : Int} (op : BinOp) (h : isSh op = false) : vint op k x y (fun v => F (.value v)) = binW W op t X Y (.int k x) (.int k y) := by
  cases op with
  | add => rw [binW_ok hp (v := .int k (k.wrap (x + y))) (eqG _) (by simp [binOp, Op.intArith])]; exact propext ⟨fun q => q.all, fun q => ⟨q⟩⟩
  | sub => rw [binW_ok hp (v := .int k (k.wrap (x - y))) (eqG _) (by simp [binOp, Op.intArith])]; exact propext ⟨fun q => q.all, fun q => ⟨q⟩⟩
  | mul => rw [binW_ok hp (v := .int k (k.wrap (x * y))) (eqG _) (by simp [binOp, Op.intArith])]; exact propext ⟨fun q => q.all, fun q => ⟨q⟩⟩
  | and => rw [binW_ok hp (v := .int k (bits .and k x y)) (eqG _) (by simp [binOp, intBits_and])]; exact propext ⟨fun q => q.all, fun q => ⟨q⟩⟩
  | or => rw [binW_ok hp (v := .int k (bits .or k x y)) (eqG _) (by simp [binOp, intBits_or])]; exact propext ⟨fun q => q.all, fun q => ⟨q⟩⟩
  | xor => rw [binW_ok hp (v := .int k (bits .xor k x y)) (eqG _) (by simp [binOp, intBits_xor])]; exact propext ⟨fun q => q.all, fun q => ⟨q⟩⟩
  | andNot => rw [binW_ok hp (v := .int k (bits .andNot k x y)) (eqG _) (by simp [binOp, intBits_andNot])]; exact propext ⟨fun q => q.all, fun q => ⟨q⟩⟩
  | quo =>
    by_cases hy : y = 0
    · rw [binW_no hh (m := "integer divide by zero") (eqG _) (by simp [binOp, Op.intDiv, hy])]
      exact propext ⟨fun q => absurd hy q.ex.1, fun q => q.elim⟩
    · rw [binW_ok hp (v := .int k (k.wrap (x.tdiv y))) (eqG _) (by simp [binOp, Op.intDiv, hy])]; exact propext ⟨fun q => q.ex.2, fun q => ⟨hy, q⟩⟩
  | rem =>
    by_cases hy : y = 0
    · rw [binW_no hh (m := "integer divide by zero") (eqG _) (by simp [binOp, Op.intDiv, hy])]
      exact propext ⟨fun q => absurd hy q.ex.1, fun q => q.elim⟩
    · rw [binW_ok hp (v := .int k (x.tmod y)) (eqG _) (by simp [binOp, Op.intDiv, hy])]; exact propext ⟨fun q => q.ex.2, fun q => ⟨hy, q⟩⟩
  | eql => rw [binW_ok hp (v := .bool (x == y)) (eqG _) (by simp [binOp, Op.intCmp]), beq_decide]; rfl
  | neq => rw [binW_ok hp (v := .bool (x != y)) (eqG _) (by simp [binOp, Op.intCmp]), bne_decide]; rfl
  | lss => rw [binW_ok hp (v := .bool (decide (x < y))) (eqG _) (by simp [binOp, Op.intCmp])]; rfl
  | leq => rw [binW_ok hp (v := .bool (decide (x ≤ y))) (eqG _) (by simp [binOp, Op.intCmp])]; rfl
  | gtr => rw [binW_ok hp (v := .bool (decide (x > y))) (eqG _) (by simp [binOp, Op.intCmp])]; rfl
  | geq => rw [binW_ok hp (v := .bool (decide (x ≥ y))) (eqG _) (by simp [binOp, Op.intCmp])]; rfl
  | shl => cases h
  | shr => cases h
theorem vbin_eq (hp : ∀ nx, W (Sem.pure nx) = F nx) (hh : ∀ m, W (do let r ← (runtimePanic (.error m) : Sem Value); pure (Next.value r)) = False) (op : BinOp) (a b : Value) : vbin op a b (binW W op t X Y a b) (fun v => F (.value v)) = binW W op t X Y a b := by
  cases a with
  | int k x =>
    cases b with
    | int k' y =>
      show Bool.rec (motive := fun _ => Prop) (Bool.rec (motive := fun _ => Prop) (binW W op t X Y (.int k x) (.int k' y)) (vint op k x y fun v => F (.value v)) (Nat.beq (kNo k) (kNo k'))) (vint op k x y fun v => F (.value v)) (isSh op) = _
      cases hs : isSh op with
      | true => exact vint_sh hp hh op hs
      | false =>
        show Bool.rec (motive := fun _ => Prop) (binW W op t X Y (.int k x) (.int k' y)) (vint op k x y fun v => F (.value v)) (Nat.beq (kNo k) (kNo k')) = _
        cases hk : Nat.beq (kNo k) (kNo k') with
        | false => rfl
        | true => cases kNo_inj hk; exact vint_same hp hh op hs
    | _ => rfl
  | string s =>
    cases b with
    | string u =>
      cases op with
      | eql => rw [binW_ok hp (v := .bool (s.toList == u.toList)) (eqGs _) (by simp [binOp, Op.stringOp])]; exact propext ⟨fun q => q.all, fun q => ⟨q⟩⟩
      | neq => rw [binW_ok hp (v := .bool (!(s.toList == u.toList))) (eqGs _) (by simp [binOp, Op.stringOp])]; exact propext ⟨fun q => q.all, fun q => ⟨q⟩⟩
      | _ => rfl
    | _ => rfl
  | _ => rfl
end
def vopV (P : Program) (o : Oper) (e : Env) (w : World) (K : Value → World → Prop) (X : List PanicEntry → World → Prop) : Prop :=
  match o.op with
  | .binOp op _ x y _ => vbin op (ev e x) (ev e y) (vopR P o e w K X) (fun v => K v w)
  | .convert s d x =>
    match P.underlying s, P.underlying d, ev e x with
    | some (.int _), some (.int k), .int _ n => ArS k n fun r => K (.int k r) w
    | _, _, _ => vopR P o e w K X
  | _ => vopR P o e w K X
theorem vopV_eq (P : Program) (o : Oper) (e : Env) (w : World) (K : Value → World → Prop) (X : List PanicEntry → World → Prop) : vopV P o e w K X = vop P o e w K X := by
  rw [← vopR_eq]
  obtain ⟨dst, op, type, pos, after, guard⟩ := o
  cases op with
  | binOp op t x y yt =>
    have h : vopR P ⟨dst, .binOp op t x y yt, type, pos, after, guard⟩ e w K X = binW (fun s => wpS P s (fun nx w' => match nx with | .value v => K v w' | .skip => K undef w' | _ => False) w) op t x y (ev e x) (ev e y) := by
      show wpR P _ _ w = _
      rw [wpR_eq]; rfl
    show vbin op (ev e x) (ev e y) (vopR P ⟨dst, .binOp op t x y yt, type, pos, after, guard⟩ e w K X) (fun v => K v w) = _
    rw [h]
    exact vbin_eq (W := fun s => wpS P s (fun nx w' => match nx with | .value v => K v w' | .skip => K undef w' | _ => False) w) (F := fun nx => match nx with | .value v => K v w | .skip => K undef w | _ => False) (fun nx => rfl) (fun m => rfl) op _ _
  | convert s d x =>
    simp only [vopV]
    split
    · rename_i hs hd hx
      simp only [vopR, hs, hd, hx]
      exact propext ⟨fun q => q.all, fun q => ⟨q⟩⟩
    · rfl
  | _ => rfl
def vopQV (P : Program) (o : Oper) (e : Env) (w : World) (K : Value → Prop) : Prop :=
  match o.op with
  | .binOp op _ x y _ => vbin op (ev e x) (ev e y) (vopQR P o e w K) K
  | .convert s d x =>
    match P.underlying s, P.underlying d, ev e x with
    | some (.int _), some (.int k), .int _ n => ArS k n fun r => K (.int k r)
    | _, _, _ => vopQR P o e w K
  | _ => vopQR P o e w K
theorem vopQV_eq (P : Program) (o : Oper) (e : Env) (w : World) (K : Value → Prop) : vopQV P o e w K = vopQ P o e w K := by
  rw [← vopQR_eq]
  obtain ⟨dst, op, type, pos, after, guard⟩ := o
  cases op with
  | binOp op t x y yt =>
    have h : vopQR P ⟨dst, .binOp op t x y yt, type, pos, after, guard⟩ e w K = binW (fun s => wpQ P s (fun nx => match nx with | .value v => K v | _ => False) w) op t x y (ev e x) (ev e y) := by
      show wqR P _ _ w = _
      rw [wqR_eq]; rfl
    show vbin op (ev e x) (ev e y) (vopQR P ⟨dst, .binOp op t x y yt, type, pos, after, guard⟩ e w K) K = _
    rw [h]
    exact vbin_eq (W := fun s => wpQ P s (fun nx => match nx with | .value v => K v | _ => False) w) (F := fun nx => match nx with | .value v => K v | _ => False) (fun nx => rfl) (fun m => rfl) op _ _
  | convert s d x =>
    simp only [vopQV]
    split
    · rename_i hs hd hx
      simp only [vopQR, hs, hd, hx]
      exact propext ⟨fun q => q.all, fun q => ⟨q⟩⟩
    · rfl
  | _ => rfl
noncomputable def vrunV (P : Program) (X : List PanicEntry → Env → World → Prop) (l : List Oper) : Env → World → (Env → World → Prop) → Prop :=
  List.rec (motive := fun _ => Env → World → (Env → World → Prop) → Prop) (fun e w K => K e w)
    (fun o _ ih e w K => vopV P o e w (fun v w' => ih (e.putO o.dst v) w' K) (fun ch w' => X ch e w')) l
theorem vrunV_eq (P : Program) (X : List PanicEntry → Env → World → Prop) (l : List Oper) : ∀ e w K, vrunV P X l e w K = vrun P X l e w K := by
  induction l with
  | nil => intro e w K; rfl
  | cons o r ih =>
    intro e w K
    show vopV P o e w (fun v w' => vrunV P X r (e.putO o.dst v) w' K) (fun ch w' => X ch e w') = vop P o e w (fun v w' => vrun P X r (e.putO o.dst v) w' K) (fun ch w' => X ch e w')
    rw [vopV_eq]; simp only [ih]
noncomputable def vopsV (P : Program) (all : List Oper) (K : Env → World → Prop) (X : List PanicEntry → Env → World → Prop) (n : Nat) : List Oper → Env → World → Prop :=
  Nat.rec (motive := fun _ => List Oper → Env → World → Prop) (fun _ _ _ => False)
    (fun _ ih l e w =>
      match l with
      | [] => K e w
      | o :: r =>
        match o.guard with
        | none => vopV P o e w (fun v w' => ih r (e.putO o.dst v) w') (fun ch w' => X ch e w')
        | some (j, want) =>
          match slotOf all j with
          | none => False
          | some g =>
            match e g with
            | .bool b => GuardB b want (vrunV P X (o :: takeG (some (j, want)) r) (e.put g (.bool want)) w fun e' w' => ih (dropG (some (j, want)) r) e' w')
                (ih (dropG (some (j, want)) r) (undefs (o :: takeG (some (j, want)) r) (e.put g (.bool !want))) w)
            | _ => ih (dropG (some (j, want)) r) (undefs (o :: takeG (some (j, want)) r) e) w) n
theorem vopsV_eq (P : Program) (all : List Oper) (K : Env → World → Prop) (X : List PanicEntry → Env → World → Prop) (n : Nat) : ∀ l e w, vopsV P all K X n l e w = vops P all K X n l e w := by
  induction n with
  | zero => intro l e w; rfl
  | succ n ih =>
    have ih' : vopsV P all K X n = vops P all K X n := funext fun l => funext fun e => funext fun w => ih l e w
    have hr : vrunV P X = vrun P X := funext fun l => funext fun e => funext fun w => funext fun K => vrunV_eq P X l e w K
    have ho : vopV P = vop P := funext fun o => funext fun e => funext fun w => funext fun K => funext fun X => vopV_eq P o e w K X
    intro l e w
    cases l with
    | nil => rfl
    | cons o r =>
      show (match o.guard with
        | none => vopV P o e w (fun v w' => vopsV P all K X n r (e.putO o.dst v) w') (fun ch w' => X ch e w')
        | some (j, want) =>
          match slotOf all j with
          | none => False
          | some g =>
            match e g with
            | .bool b => GuardB b want (vrunV P X (o :: takeG (some (j, want)) r) (e.put g (.bool want)) w fun e' w' => vopsV P all K X n (dropG (some (j, want)) r) e' w')
                (vopsV P all K X n (dropG (some (j, want)) r) (undefs (o :: takeG (some (j, want)) r) (e.put g (.bool !want))) w)
            | _ => vopsV P all K X n (dropG (some (j, want)) r) (undefs (o :: takeG (some (j, want)) r) e) w) = _
      rw [ih', hr, ho]
      rfl
noncomputable def vrunQV (P : Program) (w : World) (l : List Oper) : Env → (Env → Prop) → Prop :=
  List.rec (motive := fun _ => Env → (Env → Prop) → Prop) (fun e K => K e) (fun o _ ih e K => vopQV P o e w fun v => ih (e.putO o.dst v) K) l
theorem vrunQV_eq (P : Program) (w : World) (l : List Oper) : ∀ e K, vrunQV P w l e K = vrunQ P w l e K := by
  induction l with
  | nil => intro e K; rfl
  | cons o r ih =>
    intro e K
    show vopQV P o e w (fun v => vrunQV P w r (e.putO o.dst v) K) = vopQ P o e w (fun v => vrunQ P w r (e.putO o.dst v) K)
    rw [vopQV_eq]; simp only [ih]
noncomputable def vopsQV (P : Program) (all : List Oper) (w : World) (K : Env → Prop) (n : Nat) : List Oper → Env → Prop :=
  Nat.rec (motive := fun _ => List Oper → Env → Prop) (fun _ _ => False)
    (fun _ ih l e =>
      match l with
      | [] => K e
      | o :: r =>
        match o.guard with
        | none => vopQV P o e w fun v => ih r (e.putO o.dst v)
        | some (j, want) =>
          match slotOf all j with
          | none => False
          | some g =>
            match e g with
            | .bool b => GuardB b want (vrunQV P w (o :: takeG (some (j, want)) r) (e.put g (.bool want)) fun e' => ih (dropG (some (j, want)) r) e')
                (ih (dropG (some (j, want)) r) (undefs (o :: takeG (some (j, want)) r) (e.put g (.bool !want))))
            | _ => ih (dropG (some (j, want)) r) (undefs (o :: takeG (some (j, want)) r) e)) n
theorem vopsQV_eq (P : Program) (all : List Oper) (w : World) (K : Env → Prop) (n : Nat) : ∀ l e, vopsQV P all w K n l e = vopsQ P all w K n l e := by
  induction n with
  | zero => intro l e; rfl
  | succ n ih =>
    have ih' : vopsQV P all w K n = vopsQ P all w K n := funext fun l => funext fun e => ih l e
    have hr : vrunQV P w = vrunQ P w := funext fun l => funext fun e => funext fun K => vrunQV_eq P w l e K
    have ho : vopQV P = vopQ P := funext fun o => funext fun e => funext fun w => funext fun K => vopQV_eq P o e w K
    intro l e
    cases l with
    | nil => rfl
    | cons o r =>
      show (match o.guard with
        | none => vopQV P o e w fun v => vopsQV P all w K n r (e.putO o.dst v)
        | some (j, want) =>
          match slotOf all j with
          | none => False
          | some g =>
            match e g with
            | .bool b => GuardB b want (vrunQV P w (o :: takeG (some (j, want)) r) (e.put g (.bool want)) fun e' => vopsQV P all w K n (dropG (some (j, want)) r) e')
                (vopsQV P all w K n (dropG (some (j, want)) r) (undefs (o :: takeG (some (j, want)) r) (e.put g (.bool !want))))
            | _ => vopsQV P all w K n (dropG (some (j, want)) r) (undefs (o :: takeG (some (j, want)) r) e)) = _
      rw [ih', hr, ho]
      rfl
def guarded : List Oper → Bool
  | [] => false
  | o :: r => match o.guard with | none => guarded r | some _ => true
/-- a region whose operations ask one another -/
structure RegV (P : Program) (all : List Oper) (K : Env → World → Prop) (X : List PanicEntry → Env → World → Prop) (e : Env) (w : World) : Prop where
  go : vopsV P all K X (len all + 1) all e w
def hasCond : Code → Bool
  | .cond .. => true
  | .seq x y => bif hasCond x then true else hasCond y
  | .block _ c | .scope c => hasCond c
  | _ => false
def joinsV : Code → Bool
  | .cond _ x y => bif falls x then falls y else false
  | .seq _ y => joinsV y
  | .block _ c => hasCond c
  | _ => false
/-- a join: two ways come together here, and what stands behind it is said once -/
structure JoinV (N : Nat) (P : Program) (a : Code) (X Y : CT) (K : Exit → Env → World → Prop) (e : Env) (w : World) : Prop where
  go : X (fun ex e w => match ex with | .normal => Y K e w | ex => K ex e w) e w
noncomputable def vcV (N : Nat) (P : Program) (c : Code) : CT :=
  Code.rec (motive := fun _ => CT)
    (skip := fun K e w => K .normal e w)
    (region := fun id ops draw K e w =>
      Bool.rec (motive := fun _ => Prop) (Bool.rec (motive := fun _ => Prop) (vopsV P ops.toList (K .normal) (fun ch => K (.panic ch)) (len ops.toList + 1) ops.toList e w) (RegV P ops.toList (K .normal) (fun ch => K (.panic ch)) e w) (guarded ops.toList))
        (Bool.rec (motive := fun _ => Prop) (Bool.rec (motive := fun _ => Prop)
          (DrawS w fun w1 => vopsQV P ops.toList w1 (fun e' => vopsV P ops.toList (K .normal) (fun ch => K (.panic ch)) (len ops.toList + 1) (ops.toList.drop (stillN ops.toList)) e' w1) (len ops.toList + 1) (ops.toList.take (stillN ops.toList)) e)
          (DrawS w fun w1 => vopsQV P ops.toList w1 (fun e' => K .normal e' w1) (len ops.toList + 1) ops.toList e)
          (Nat.beq (stillN ops.toList) (len ops.toList))) (RegS N P id ops K e w) (gen ops.toList)) draw)
    (seq := fun a _ x y K e w =>
      Bool.rec (motive := fun _ => Prop) (x (fun ex e w => match ex with | .normal => y K e w | ex => K ex e w) e w) (JoinV N P a x y K e w) (joinsV a))
    (cond := fun c _ _ x y K e w => Option.rec (motive := fun _ => Prop) False (fun b => CondB b (x K e w) (y K e w)) (boolOf (ev e c)))
    (block := fun id _ c K e w => c (fun ex e w => match ex with | .exit id' => Bool.rec (motive := fun _ => Prop) (K (.exit id') e w) (K .normal e w) (Nat.beq id' id) | ex => K ex e w) e w)
    (loop := fun c _ K e w => LoopS N P c K e w)
    (rangeFunc := fun _ _ _ _ _ _ _ _ _ => False)
    (exit := fun id K e w => K (.exit id) e w)
    (scope := fun _ c K e w => c (fun ex e w => match ex with | .goto _ => False | ex => K ex e w) e w)
    (label := fun _ K e w => K .normal e w)
    (goto := fun l K e w => K (.goto l) e w)
    (ret := fun K e w => K .ret e w)
    (refuse := fun _ _ _ _ => False) c
theorem joinS_eqV (N : Nat) (P : Program) (a : Code) (X Y : CT) (K : Exit → Env → World → Prop) (e : Env) (w : World) : JoinV N P a X Y K e w = X (fun ex e w => match ex with | .normal => Y K e w | ex => K ex e w) e w := propext ⟨fun h => h.go, fun h => ⟨h⟩⟩
theorem vcV_eq (N : Nat) (P : Program) (c : Code) : ∀ K e w, vcV N P c K e w = vc N P c K e w := by
  have hq : vopsQV P = vopsQ P := funext fun a => funext fun w => funext fun K => funext fun n => funext fun l => funext fun e => vopsQV_eq P a w K n l e
  have hs : vopsV P = vops P := funext fun a => funext fun K => funext fun X => funext fun n => funext fun l => funext fun e => funext fun w => vopsV_eq P a K X n l e w
  induction c with
  | region id ops draw =>
    intro K e w
    show Bool.rec (motive := fun _ => Prop) (Bool.rec (motive := fun _ => Prop) (vopsV P ops.toList (K .normal) (fun ch => K (.panic ch)) (len ops.toList + 1) ops.toList e w) (RegV P ops.toList (K .normal) (fun ch => K (.panic ch)) e w) (guarded ops.toList))
        (Bool.rec (motive := fun _ => Prop) (Bool.rec (motive := fun _ => Prop)
          (DrawS w fun w1 => vopsQV P ops.toList w1 (fun e' => vopsV P ops.toList (K .normal) (fun ch => K (.panic ch)) (len ops.toList + 1) (ops.toList.drop (stillN ops.toList)) e' w1) (len ops.toList + 1) (ops.toList.take (stillN ops.toList)) e)
          (DrawS w fun w1 => vopsQV P ops.toList w1 (fun e' => K .normal e' w1) (len ops.toList + 1) ops.toList e)
          (Nat.beq (stillN ops.toList) (len ops.toList))) (RegS N P id ops K e w) (gen ops.toList)) draw = _
    have hg : RegV P ops.toList (K .normal) (fun ch => K (.panic ch)) e w = vopsV P ops.toList (K .normal) (fun ch => K (.panic ch)) (len ops.toList + 1) ops.toList e w := propext ⟨fun h => h.go, fun h => ⟨h⟩⟩
    rw [hg, hq, hs]
    cases draw with
    | false =>
      show Bool.rec (motive := fun _ => Prop) (vops P ops.toList (K .normal) (fun ch => K (.panic ch)) (len ops.toList + 1) ops.toList e w) (vops P ops.toList (K .normal) (fun ch => K (.panic ch)) (len ops.toList + 1) ops.toList e w) (guarded ops.toList) = _
      cases guarded ops.toList <;> rfl
    | true =>
      show _ = (bif gen ops.toList then RegS N P id ops K e w else bif Nat.beq (stillN ops.toList) (len ops.toList) then DrawS w fun w1 => vopsQ P ops.toList w1 (fun e' => K .normal e' w1) (len ops.toList + 1) ops.toList e
        else DrawS w fun w1 => vopsQ P ops.toList w1 (fun e' => vops P ops.toList (K .normal) (fun ch => K (.panic ch)) (len ops.toList + 1) (ops.toList.drop (stillN ops.toList)) e' w1) (len ops.toList + 1) (ops.toList.take (stillN ops.toList)) e)
      cases gen ops.toList <;> cases Nat.beq (stillN ops.toList) (len ops.toList) <;> rfl
  | seq x y ihx ihy =>
    intro K e w
    have hx : vcV N P x = vc N P x := funext fun K => funext fun e => funext fun w => ihx K e w
    have hy : vcV N P y = vc N P y := funext fun K => funext fun e => funext fun w => ihy K e w
    show Bool.rec (motive := fun _ => Prop) (vcV N P x (fun ex e w => match ex with | .normal => vcV N P y K e w | ex => K ex e w) e w) (JoinV N P x (vcV N P x) (vcV N P y) K e w) (joinsV x) = _
    rw [hx, hy]
    cases joinsV x
    · rfl
    · exact joinS_eqV _ _ _ _ _ _ _ _
  | cond c x y ihx ihy =>
    intro K e w
    have hx : vcV N P x = vc N P x := funext fun K => funext fun e => funext fun w => ihx K e w
    have hy : vcV N P y = vc N P y := funext fun K => funext fun e => funext fun w => ihy K e w
    show Option.rec (motive := fun _ => Prop) False (fun b => CondB b (vcV N P x K e w) (vcV N P y K e w)) (boolOf (ev e c)) = (match ev e c with | .bool b => CondB b (vc N P x K e w) (vc N P y K e w) | _ => False)
    rw [hx, hy]
    cases ev e c <;> rfl
  | block id c ih =>
    intro K e w
    show vcV N P c (fun ex e w => match ex with | .exit id' => Bool.rec (motive := fun _ => Prop) (K (.exit id') e w) (K .normal e w) (Nat.beq id' id) | ex => K ex e w) e w = _
    rw [ih]
    show _ = vc N P c (fun ex e w => match ex with | .exit id' => bif Nat.beq id' id then K .normal e w else K (.exit id') e w | ex => K ex e w) e w
    congr 1
    funext ex e w
    cases ex with
    | exit id' => show Bool.rec (motive := fun _ => Prop) _ _ (Nat.beq id' id) = _; simp only; cases Nat.beq id' id <;> rfl
    | _ => rfl
  | scope c ih =>
    intro K e w
    show vcV N P c (fun ex e w => match ex with | .goto _ => False | ex => K ex e w) e w = _
    rw [ih]; rfl
  | _ => intros; rfl

theorem vopsV_mono {P : Program} {all : List Oper} {K K' : Env → World → Prop} {X X' : List PanicEntry → Env → World → Prop} {n : Nat} {l : List Oper} {e : Env} {w : World} (hk : ∀ e w, K e w → K' e w) (hx : ∀ c e w, X c e w → X' c e w) (h : vopsV P all K X n l e w) : vopsV P all K' X' n l e w := by
  rw [vopsV_eq] at h ⊢
  exact vops_mono hk hx n l e w h
/-- a region's end, said once: all its ways come to J, and from J it goes on once -/
theorem cutV {P : Program} {all : List Oper} {K : Env → World → Prop} {X : List PanicEntry → Env → World → Prop} {n : Nat} {l : List Oper} {e : Env} {w : World} (J : Env → World → Prop) (h : vopsV P all J X n l e w) (k : ∀ e w, J e w → K e w) : vopsV P all K X n l e w :=
  vopsV_mono k (fun _ _ _ q => q) h
theorem cutG {P : Program} {all : List Oper} {K : Env → World → Prop} {X : List PanicEntry → Env → World → Prop} {e : Env} {w : World} (J : Env → World → Prop) (h : vopsV P all J X (len all + 1) all e w) (k : ∀ e w, J e w → K e w) : RegV P all K X e w :=
  ⟨vopsV_mono k (fun _ _ _ q => q) h⟩
/-- from both ways to J, and from J on -/
theorem joinV {N : Nat} {P : Program} {c : Code} {X Y : CT} {K : Exit → Env → World → Prop} {e : Env} {w : World} (J : Env → World → Prop) (hX : X = vcV N P c) (h : vcV N P c (fun ex e w => match ex with | .normal => J e w | ex => K ex e w) e w) (k : ∀ e w, J e w → Y K e w) : JoinV N P c X Y K e w := by
  refine ⟨?_⟩
  rw [hX]
  rw [vcV_eq] at h ⊢
  refine vc_mono c ?_ h
  intro ex e w q
  cases ex <;> first | exact k e w q | exact q
theorem loopV {N : Nat} {P : Program} {c : Code} {K : Exit → Env → World → Prop} {e : Env} {w : World} (hc : codeOK N P c = true) (I : Nat → Env → World → Prop) (n : Nat) (h0 : I n e w)
    (hb : ∀ n e w, I n e w → vcV N P c (fun ex e' w' => match ex with | .normal => ∃ m, m < n ∧ I m e' w' | ex => K ex e' w') e w) : LoopS N P c K e w :=
  LoopS.rule hc I n h0 fun n e w hI => by
    have h := hb n e w hI
    rw [vcV_eq] at h
    exact h
theorem loopW {N : Nat} {P : Program} {c : Code} {K : Exit → Env → World → Prop} {e : Env} {w : World} (hc : codeOK N P c = true) (I : Nat → Env → World → Prop) (J : Nat → Env → World → Prop) (n : Nat) (h0 : I n e w)
    (hb : ∀ n e w, I n e w → vcV N P c (fun ex e' w' => match ex with | .normal => ∃ m, m < n ∧ I m e' w' | .exit id => J id e' w' | ex => K ex e' w') e w)
    (hj : ∀ id e w, J id e w → K (.exit id) e w) : LoopS N P c K e w := by
  refine LoopS.mono (K := fun ex e w => match ex with | .exit id => J id e w | ex => K ex e w) (loopV hc I n h0 ?_) ?_
  · intro n e w hI
    have h := hb n e w hI
    refine cast ?_ h
    congr 1
    funext ex e' w'
    cases ex <;> rfl
  · intro ex e w h
    cases ex <;> first | exact h | exact hj _ _ _ h
theorem calls_of_vcV {P : Program} {f : FuncId} {fn : Func} {c : Code} {args : List Value} {w : World} {R : Ending → World → Prop} (hf : P.funcs[f]? = some fn) (hb : fn.body = some c) (hok : codeOK fn.ntmps P c = true)
    (hargs : args.length ≤ fn.ntmps) (h : vcV fn.ntmps P c (retK P fn R) (start args) w) : Calls P f args.toArray w R :=
  calls_of_vc hf hb hok hargs (vcV_eq _ _ _ _ _ _ ▸ h)
end Go.Proofs.YtjdgcgmhbhfpkaaDoorE
