/- Drawn regions whose order is told by hand: what may be done in any order is taken first, the rest comes alone. No condition of the laws stands here. -/
import Derived.Test.YtjdgcgmhbhfpkaaDoorEngV
import Derived.OrdersHeld
namespace Go.Proofs.YtjdgcgmhbhfpkaaDoorE
open Go Go.RowKit
set_option linter.unusedVariables false
set_option maxRecDepth 100000
set_option linter.unusedSimpArgs false

/-- every block that stood still stands as it was -/
structure HeldW (w w' : World) : Prop where
  block : ∀ k, k < w.heap.size → w'.heap[k]? = w.heap[k]?
theorem HeldW.refl (w : World) : HeldW w w := ⟨fun _ _ => rfl⟩
theorem HeldW.ofBelow {w w' : World} (h : Below w.heap.size w w') : HeldW w w' := ⟨h.block⟩
theorem HeldW.cell {w w' : World} (h : HeldW w w') {a : Addr} {v : Value} (hc : w.cell? a = some v) : w'.cell? a = some v := by
  have hb : a.block < w.heap.size := by
    refine Nat.lt_of_not_le fun hge => ?_
    unfold World.cell? at hc
    rw [Array.getElem?_eq_none hge] at hc
    cases hc
  unfold World.cell? at hc ⊢
  rw [h.block _ hb]
  exact hc
noncomputable def wqG (P : Program) (ld : Bool) {α : Type} (s : Sem α) : (α → Prop) → World → Prop :=
  Sem.rec (motive := fun _ => (α → Prop) → World → Prop)
    (fun a K _ => K a)
    (fun _ a _ ih K w => Bool.rec (motive := fun _ => Prop) False (LoadS w a fun v => ih v K w) ld)
    (fun _ _ _ _ _ _ _ => False)
    (fun _ _ _ _ _ => False)
    (fun _ _ _ _ _ => False)
    (fun _ _ _ _ _ _ => False)
    (fun _ _ _ _ _ => False)
    (fun _ _ _ _ _ => False)
    (fun _ _ _ _ _ _ => False)
    (fun _ _ _ _ _ => False)
    (fun _ _ _ _ _ => False)
    (fun _ ih K w => ih P K w)
    (fun _ _ ih K w => ih K w)
    (fun _ _ _ => False) s
theorem wqG_run (P : Program) (ld : Bool) {α : Type} (s : Sem α) : ∀ (K : α → Prop) (w : World), wqG P ld s K w → ∃ v, K v ∧ ∀ w', (ld = true → HeldW w w') → s.run P w' = .ok v w' := by
  induction s with
  | pure a => intro K w h; exact ⟨a, h, fun w' _ => rfl⟩
  | load m a k ih =>
    intro K w h
    cases ld with
    | false => exact h.elim
    | true =>
      have h : LoadS w a fun v => wqG P true (k v) K w := h
      obtain ⟨v, hv, hk⟩ := h.ex
      obtain ⟨u, hu, hr⟩ := ih v K w hk
      refine ⟨u, hu, fun w' hw => ?_⟩
      have hc := (hw rfl).cell hv
      simp only [Sem.run, hc]
      exact hr w' hw
  | program k ih =>
    intro K w h
    obtain ⟨u, hu, hr⟩ := ih P K w h
    exact ⟨u, hu, fun w' hw => hr w' hw⟩
  | mark m k ih =>
    intro K w h
    obtain ⟨u, hu, hr⟩ := ih K w h
    exact ⟨u, hu, fun w' hw => hr w' hw⟩
  | _ => intro K w h; exact h.elim

/-! ## what is done in whatever order -/
def isLoad (o : Oper) : Bool := match o.op with | .load .. => true | _ => false
noncomputable def vopG (P : Program) (o : Oper) (e : Env) (w : World) (K : Value → Prop) : Prop :=
  match o.op with
  | .call ⟨.builtin .len, args, argTypes⟩ => vbuiltin P .len ⟨.builtin .len, args, argTypes⟩ o.type (args.toList.map (ev e)) w (fun v _ => K v)
  | .call _ => False
  | .move x | .assign x => K (ev e x)
  | .makeFunc fn first captured => K (.func fn (first.toList.map (ev e)).toArray (captured.toList.map (ev e)).toArray)
  | .indexAddr t x ix =>
    match P.underlying t, ev e x, ev e ix with
    | some (.slice el), .slice A n _, .int _ i =>
      match P.info? el with
      | some inf => IdxS A n i fun b off => K (.pointer (some ⟨b, off + i.toNat * inf.size, none⟩))
      | none => False
    | some (.array n el), .pointer A, .int _ i =>
      match P.info? el with
      | some inf => IdxS A n i fun b off => K (.pointer (some ⟨b, off + i.toNat * inf.size, none⟩))
      | none => False
    | _, _, _ => False
  | .index t x ix =>
    match P.underlying t, ev e x, ev e ix with
    | some .string, .string s, .int _ i => StrS s i fun b => K (.int .u8 b)
    | _, _, _ => False
  | .slice t x lo hi none =>
    match P.underlying t, ev e x, asI (lo.map (ev e)), asI (hi.map (ev e)) with
    | some (.slice el), .slice A n c, some l, some h =>
      match P.info? el with
      | some inf => CutS n c l h fun l h => LetS (if c = l then A else A.map (·.add (l * inf.size))) fun A' => K (.slice A' (h - l) (c - l))
      | none => False
    | some .string, .string s, some l, some h => CutS s.size s.size l h fun l h => LetV (.string (s.extract l h)) fun v => K v
    | _, _, _, _ => False
  | .slice .. => False
  | .binOp op t x y _ => vbin op (ev e x) (ev e y) (wqG P false (execOp (ev e) o) (fun nx => match nx with | .value v => K v | _ => False) w) K
  | .convert s d x =>
    match P.underlying s, P.underlying d, ev e x with
    | some (.int _), some (.int k), .int _ n => ArS k n fun r => K (.int k r)
    | _, _, _ => False
  | .load .. => wqG P true (execOp (ev e) o) (fun nx => match nx with | .value v => K v | _ => False) w
  | _ => wqG P false (execOp (ev e) o) (fun nx => match nx with | .value v => K v | _ => False) w
theorem vopG_run {P : Program} {o : Oper} {e : Env} {w : World} {K : Value → Prop} (h : vopG P o e w K) : ∃ v, K v ∧ ∀ w', (isLoad o = true → HeldW w w') → (execOp (ev e) o).run P w' = .ok (.value v) w' := by
  have gen : ∀ ld, wqG P ld (execOp (ev e) o) (fun nx => match nx with | .value v => K v | _ => False) w → ∃ v, K v ∧ ∀ w', (ld = true → HeldW w w') → (execOp (ev e) o).run P w' = .ok (.value v) w' := by
    intro ld h
    obtain ⟨nx, hk, hr⟩ := wqG_run _ _ _ _ _ h
    cases nx <;> first | exact ⟨_, hk, hr⟩ | exact hk.elim
  obtain ⟨dst, op, type, pos, after, guard⟩ := o
  cases op with
  | call c =>
    obtain ⟨callee, args, argTypes⟩ := c
    cases callee with
    | builtin b =>
      cases b <;> first | exact h.elim | skip
      have h : vbuiltin P .len ⟨.builtin .len, args, argTypes⟩ type (args.toList.map (ev e)) w (fun v _ => K v) := h
      unfold vbuiltin at h
      simp only at h
      split at h
      · rename_i hu hl; exact ⟨_, h, fun w' _ => len_run1 hu hl⟩
      · rename_i hu hl; exact ⟨_, h, fun w' _ => len_run2 hu hl⟩
      · exact h.elim
    | value f => exact h.elim
    | invoke r name => exact h.elim
  | move x => exact ⟨ev e x, h, fun w' _ => rfl⟩
  | assign x => exact ⟨ev e x, h, fun w' _ => rfl⟩
  | makeFunc fn first captured =>
    have h1 : first.map (ev e) = (first.toList.map (ev e)).toArray := by apply Array.ext'; simp
    have h2 : captured.map (ev e) = (captured.toList.map (ev e)).toArray := by apply Array.ext'; simp
    refine ⟨_, h, fun w' _ => ?_⟩
    rw [← h1, ← h2]; rfl
  | indexAddr t x ix =>
    simp only [vopG] at h
    split at h
    · split at h
      · rename_i hu hx hi _ inf hs
        obtain ⟨h0, h1, b', off', rfl, hk⟩ := h.ex
        exact ⟨_, hk, fun w' _ => idx_run hu hx hi hs h0 h1⟩
      · exact h.elim
    · split at h
      · rename_i hu hx hi _ inf hs
        obtain ⟨h0, h1, b', off', rfl, hk⟩ := h.ex
        exact ⟨_, hk, fun w' _ => arr_run hu hx hi hs h0 h1⟩
      · exact h.elim
    · exact h.elim
  | index t x ix =>
    simp only [vopG] at h
    split at h
    · rename_i hu hx hi
      obtain ⟨⟨h0, h1⟩, hk⟩ := h.ex
      exact ⟨_, hk, fun w' _ => str_run hu hx hi h0 h1⟩
    · exact h.elim
  | slice t x lo hi mx =>
    cases mx with
    | some m => exact h.elim
    | none =>
      simp only [vopG] at h
      split at h
      · rename_i hu hx hl hhi
        split at h
        · rename_i inf hs
          obtain ⟨l, h', h1, h2, h3, h4, hk⟩ := h.ex
          exact ⟨_, hk.all _ rfl, fun w' _ => cut_run1 hu hx hl hhi hs h1 h2 h3 h4⟩
        · exact h.elim
      · rename_i hu hx hl hhi
        obtain ⟨l, h', h1, h2, h3, h4, hk⟩ := h.ex
        exact ⟨_, hk.all _ rfl, fun w' _ => cut_run2 hu hx hl hhi h1 h2 h3 h4⟩
      · exact h.elim
  | convert s d x =>
    simp only [vopG] at h
    split at h
    · rename_i hs hd hx
      exact ⟨_, h.all, fun w' _ => conv_run hs hd hx⟩
    · exact h.elim
  | binOp op t x y yt =>
    have h : vbin op (ev e x) (ev e y) (binW (fun s => wqG P false s (fun nx => match nx with | .value v => K v | _ => False) w) op t x y (ev e x) (ev e y)) K := h
    rw [show vbin op (ev e x) (ev e y) (binW (fun s => wqG P false s (fun nx => match nx with | .value v => K v | _ => False) w) op t x y (ev e x) (ev e y)) K = _ from
      vbin_eq (W := fun s => wqG P false s (fun nx => match nx with | .value v => K v | _ => False) w) (F := fun nx => match nx with | .value v => K v | _ => False) (fun nx => rfl) (fun m => rfl) op _ _] at h
    obtain ⟨v, hk, hr⟩ := gen false h
    exact ⟨v, hk, fun w' _ => hr w' (fun q => by cases q)⟩
  | load x => exact gen true h
  | _ =>
    obtain ⟨v, hk, hr⟩ := gen false h
    exact ⟨v, hk, fun w' _ => hr w' (fun q => by cases q)⟩

/-! ## orders -/
def reachN (ops : Array Oper) : Nat → Nat → Nat → Bool
  | 0, _, _ => false
  | n + 1, j, i =>
    match ops[j]? with
    | some oj => oj.after.toList.any fun e => Region.binds .any e && (Nat.beq e.on i || reachN ops n e.on i)
    | none => false
section
variable {P : Program} {ops : Array Oper} {Q : Exit → Act → World → Prop} {S : World → Prop} {ex : Nat → Bool}
theorem reach_listed {listed : Array Bool} (inv : HeadInv .any ops ops.size listed) : ∀ (n j i : Nat) (oj : Oper), ops[j]? = some oj → (∀ e ∈ oj.after, Region.binds .any e = true → listed.getD e.on false = true) → reachN ops n j i = true → listed.getD i false = true := by
  intro n
  induction n with
  | zero => intro j i oj _ _ h; cases h
  | succ n ih =>
    intro j i oj hj hl h
    simp only [reachN, hj, List.any_eq_true, Bool.and_eq_true, Bool.or_eq_true] at h
    obtain ⟨e, he, hb, h⟩ := h
    have he' : e ∈ oj.after := by simpa using he
    have h1 := hl e he' hb
    rcases h with h | h
    · rw [← Nat.eq_of_beq_eq_true h]; exact h1
    · cases ho : ops[e.on]? with
      | none => cases n <;> simp [reachN, ho] at h
      | some o' => exact ih e.on i o' ho (fun e2 he2 hb2 => inv.closed e.on o' ho h1 e2 he2 hb2) h
/-- whatever order is picked from here on; all but the excepted operations keep S -/
def wpAnyG (P : Program) (ops : Array Oper) (Q : Exit → Act → World → Prop) (S : World → Prop) (ex : Nat → Bool) : Nat → Array Bool → Act → World → Prop
  | 0, listed, a, w => Region.ready .any ops listed = [] ∧ Q .normal a w
  | f + 1, listed, a, w =>
    (Region.ready .any ops listed = [] → Q .normal a w) ∧
    ∀ i ∈ Region.ready .any ops listed, wpOp P ops Q i (fun a' w' => (ex i = false → S w → S w') ∧ wpAnyG P ops Q S ex f (listed.setIfInBounds i true) a' w') a w
theorem wpAny_of_G : ∀ (f : Nat) (listed : Array Bool) (a : Act) (w : World), wpAnyG P ops Q S ex f listed a w → wpAny P .any ops Q f listed a w
  | 0, _, _, _, h => h
  | f + 1, _, _, _, h => ⟨h.1, fun i hi => wpOp_mono (fun a' w' h' => wpAny_of_G f _ a' w' h'.2) (h.2 i hi)⟩
theorem wpAnyG_first {i : Nat} {oi : Oper} {v : Value} {b : Bool} {n : Nat} (hi : ops[i]? = some oi) (hsel : ∀ (j : Nat) (o : Oper) cs b, ops[j]? = some o → o.op ≠ .select cs b)
    (hQ : ∀ c a w, Q (.panic c) (a.put oi.dst v) w → Q (.panic c) a w) (hx : b = true → ∀ j, ex j = true → reachN ops n j i = true) :
    ∀ (f : Nat) (listed : Array Bool) (a : Act) (w : World), HeadInv .any ops ops.size listed →
      (∀ j oj, ops[j]? = some oj → j ≠ i → listed.getD j true = false → (∀ e ∈ oj.after, Region.binds .any e = true → e.on ≠ i) → oi.apart ops oj = true) →
      i ∈ Region.ready .any ops listed → (b = true → S w) → YieldsIf P ops (fun w => b = true → S w) oi v a →
      wpAnyG P ops Q S ex f (listed.setIfInBounds i true) (a.put oi.dst v) w → wpAnyG P ops Q S ex (f + 1) listed a w := by
  intro f
  induction f with
  | zero =>
    intro listed a w inv _ hr hs hy H
    refine ⟨fun h => (by rw [h] at hr; cases hr), fun j hj => ?_⟩
    by_cases hji : j = i
    · subst hji; exact hy.wpOp hi hs ⟨fun _ q => q, H⟩
    · have := ready_mono hj hji
      rw [H.1] at this
      cases this
  | succ f ih =>
    intro listed a w inv hfree hr hs hy H
    refine ⟨fun h => (by rw [h] at hr; cases hr), fun j hj => ?_⟩
    by_cases hji : j = i
    · subst hji; exact hy.wpOp hi hs ⟨fun _ q => q, H⟩
    · have h1 := H.2 j (ready_mono hj hji)
      obtain ⟨hjun, oj, hoj, hall⟩ := mem_ready.1 hj
      have hiun := getD_both (mem_ready.1 hr).1
      have hnot : ∀ e ∈ oj.after, Region.binds .any e = true → e.on ≠ i := fun e he hb heq => by
        have h1 := hall e he hb
        rw [heq, hiun] at h1
        cases h1
      have hexj : b = true → ex j = false := fun hb => by
        cases hxj : ex j with
        | false => rfl
        | true =>
          have := reach_listed inv n j i oj hoj hall (hx hb j hxj)
          rw [hiun] at this
          cases this
      have h2 := wpOp_putIf hoj (hfree j oj hoj hji hjun hnot) (fun cs b => hsel i oi cs b hi) (fun cs b => hsel j oj cs b hoj) hQ hy h1
      have hfree' : ∀ k ok, ops[k]? = some ok → k ≠ i → (listed.setIfInBounds j true).getD k true = false →
          (∀ e ∈ ok.after, Region.binds .any e = true → e.on ≠ i) → oi.apart ops ok = true := fun k ok hk hki hun hno => by
        refine hfree k ok hk hki ?_ hno
        by_cases hjk : j = k
        · subst hjk; exact hjun
        · rw [getD_set_ne true hjk] at hun; exact hun
      have hjs : j < ops.size := (Array.getElem?_eq_some_iff.1 hoj).1
      refine wpOp_mono (fun a' w' h3 => ⟨h3.2.1, ih (listed.setIfInBounds j true) a' w' (inv.set hj hjs) hfree' (ready_mono hr (Ne.symm hji)) (fun hb => h3.2.1 (hexj hb) (hs hb)) h3.1 ?_⟩) h2
      rw [Array.setIfInBounds_comm _ _ hji]
      exact h3.2.2
end

/-! ## a region told in an order of one's own -/
def has (i : Nat) : List Nat → Bool
  | [] => false
  | j :: r => bif Nat.beq i j then true else has i r
def nthO : List Oper → Nat → Option Oper
  | [], _ => none
  | o :: _, 0 => some o
  | _ :: r, i + 1 => nthO r i
theorem nthO_eq : ∀ (l : List Oper) (i : Nat), nthO l i = l[i]?
  | [], i => by simp [nthO]
  | o :: r, 0 => rfl
  | o :: r, i + 1 => by simp [nthO, nthO_eq r i]
structure KeepS (w w' : World) (K : Prop) : Prop where
  ex : HeldW w w' ∧ K
/-- an operation's guard: done, or left -/
def guardK (v : Value) (want : Bool) (X Y Z : Prop) : Prop :=
  match v with
  | .bool b => GuardB b want X Y
  | _ => Z
noncomputable def doG (P : Program) (now keep : List Nat) (w0 : World) (i : Nat) (o : Oper) (ih : Env → World → Prop) (e : Env) (w : World) : Prop :=
  Bool.rec (motive := fun _ => Prop) (vopG P o e w0 fun v => ih (e.putO o.dst v) w)
    (vopV P o e w (fun v w' => Bool.rec (motive := fun _ => Prop) (ih (e.putO o.dst v) w') (KeepS w0 w' (ih (e.putO o.dst v) w')) (has i keep)) (fun _ _ => False)) (has i now)
noncomputable def stepG (P : Program) (ops : List Oper) (now keep : List Nat) (w0 : World) (i : Nat) (ih : Env → World → Prop) (e : Env) (w : World) (o : Oper) : Prop :=
  Option.rec (motive := fun _ => Prop) (doG P now keep w0 i o ih e w)
    (fun jw => Option.rec (motive := fun _ => Prop) False
      (fun g => guardK (e g) jw.2 (doG P now keep w0 i o ih (e.put g (.bool jw.2)) w) (ih ((e.put g (.bool !jw.2)).putO o.dst undef) w) (ih (e.putO o.dst undef) w)) (slotOf ops jw.1)) o.guard
noncomputable def vopsG (P : Program) (ops : List Oper) (now keep : List Nat) (w0 : World) (K : Env → World → Prop) (plan : List Nat) : Env → World → Prop :=
  List.rec (motive := fun _ => Env → World → Prop) (fun e w => K e w)
    (fun i _ ih e w => Option.rec (motive := fun _ => Prop) False (fun o => stepG P ops now keep w0 i ih e w o) (nthO ops i)) plan
def planG (ops : Array Oper) (now keep loads : List Nat) : List Nat → Bool → Array Bool → Bool
  | [], _, listed => (Region.ready .any ops listed).isEmpty
  | i :: r, s, listed =>
    match ops[i]? with
    | none => false
    | some o =>
      (bif has i now then decide (Region.ready .any ops listed = [i]) && (has i keep || loads.all fun h => reachN ops ops.size i h)
       else (Region.ready .any ops listed).contains i && Region.free .any ops listed i && (!isLoad o || (s && has i loads))) &&
      planG ops now keep loads r (s && (!has i now || has i keep)) (listed.setIfInBounds i true)
def okG (N : Nat) (P : Program) (ops : Array Oper) (now keep loads plan : List Nat) : Bool :=
  P.follows .mixedOrders && Region.noSelect ops && (ops.toList.all fun o => dstOK N o) && Nat.beq plan.length ops.size &&
  (now.all fun j => has j keep || loads.all fun h => reachN ops ops.size j h) && planG ops now keep loads plan true (Array.replicate ops.size false)
theorem has_mem {i : Nat} : ∀ {l : List Nat}, has i l = true → i ∈ l
  | j :: r, h => by
    unfold has at h
    cases hb : Nat.beq i j with
    | true => rw [Nat.eq_of_beq_eq_true hb]; exact List.mem_cons_self
    | false => rw [hb] at h; exact List.mem_cons_of_mem _ (has_mem h)
theorem vopsG_sound {N : Nat} {P : Program} {ops : Array Oper} {now keep loads : List Nat} {w0 : World} {K : Env → World → Prop} {Q : Exit → Act → World → Prop} (hsel : Region.noSelect ops = true)
    (hall : ∀ o ∈ ops.toList, dstOK N o = true) (hnow : ∀ j ∈ now, has j keep = true ∨ ∀ h ∈ loads, reachN ops ops.size j h = true)
    (hK : ∀ e w a, K e w → Rel N e a → Q .normal a w) (hX : ∀ c a w, Q (.panic c) a w = False) :
    ∀ (plan : List Nat) (s : Bool) (listed : Array Bool) (e : Env) (a : Act) (w : World), HeadInv .any ops ops.size listed → planG ops now keep loads plan s listed = true → (s = true → HeldW w0 w) →
      vopsG P ops.toList now keep w0 K plan e w → Rel N e a → wpAnyG P ops Q (HeldW w0) (fun j => has j now && !has j keep) plan.length listed a w := by
  intro plan
  induction plan with
  | nil =>
    intro s listed e a w inv hp _ h hr
    exact ⟨by simpa [planG] using hp, hK _ _ _ h hr⟩
  | cons i r ih =>
    intro s listed e a w inv hp hs h hr
    cases ho : ops[i]? with
    | none => simp [planG, ho] at hp
    | some o =>
      simp only [planG, ho, Bool.and_eq_true] at hp
      obtain ⟨hp1, hp2⟩ := hp
      have hn : nthO ops.toList i = some o := by rw [nthO_eq]; simpa using ho
      have him : o ∈ ops.toList := List.mem_of_getElem? (l := ops.toList) (i := i) (a := o) (by simpa using ho)
      have hd := hall o him
      have his : i < ops.size := (Array.getElem?_eq_some_iff.1 ho).1
      have h : Option.rec (motive := fun _ => Prop) False (fun o => stepG P ops.toList now keep w0 i (vopsG P ops.toList now keep w0 K r) e w o) (nthO ops.toList i) := h
      rw [hn] at h
      have h : stepG P ops.toList now keep w0 i (vopsG P ops.toList now keep w0 K r) e w o := h
      have hseln := Region.noSelect_spec hsel
      -- the operation is done
      have done : ∀ e : Env, Rel N e a → Region.wanted o (yielded ops a.tmps) = true → doG P now keep w0 i o (vopsG P ops.toList now keep w0 K r) e w → wpAnyG P ops Q (HeldW w0) (fun j => has j now && !has j keep) (r.length + 1) listed a w := by
        intro e hr hwt h
        unfold doG at h
        cases hin : has i now with
        | false =>
          rw [hin] at hp1 hp2
          simp only [cond_false, Bool.and_eq_true, Bool.or_eq_true, Bool.not_eq_true'] at hp1
          obtain ⟨⟨hrd, hfr⟩, hld⟩ := hp1
          have h : vopG P o e w0 fun v => vopsG P ops.toList now keep w0 K r (e.putO o.dst v) w := by simpa only [hin] using h
          obtain ⟨v, hk, hrun⟩ := vopG_run h
          have hri : i ∈ Region.ready .any ops listed := by simpa using hrd
          refine wpAnyG_first (b := isLoad o) (n := ops.size) (v := v) ho hseln (fun c a w q => by rw [hX] at q; exact q.elim) ?_ r.length listed a w inv (Region.free_spec ho hfr) hri ?_ ?_ ?_
          · intro hb j hj
            simp only [Bool.and_eq_true, Bool.not_eq_true'] at hj
            rcases hld with hld | hld
            · rw [hb] at hld; cases hld
            · rcases hnow j (has_mem hj.1) with q | q
              · rw [hj.2] at q; cases q
              · exact q i (has_mem hld.2)
          · intro hb
            rcases hld with hld | hld
            · rw [hb] at hld; cases hld
            · exact hs hld.1
          · exact .inl ⟨hwt, fun w' hw' => by rw [hr.eval]; exact hrun w' hw'⟩
          · refine ih _ _ _ _ _ (inv.set hri his) hp2 (fun q => hs ?_) hk (hr.put hd v)
            simp only [Bool.and_eq_true] at q
            exact q.1
        | true =>
          rw [hin] at hp1 hp2
          simp only [cond_true, Bool.and_eq_true, decide_eq_true_eq] at hp1
          obtain ⟨hrd, _⟩ := hp1
          have h : vopV P o e w (fun v w' => Bool.rec (motive := fun _ => Prop) (vopsG P ops.toList now keep w0 K r (e.putO o.dst v) w') (KeepS w0 w' (vopsG P ops.toList now keep w0 K r (e.putO o.dst v) w')) (has i keep)) (fun _ _ => False) := by simpa only [hin] using h
          rw [vopV_eq] at h
          refine ⟨fun q => (by rw [hrd] at q; cases q), fun j hj => ?_⟩
          rw [hrd] at hj
          obtain rfl : j = i := by simpa using hj
          have hri : j ∈ Region.ready .any ops listed := by rw [hrd]; exact List.mem_cons_self
          unfold wpOp
          simp only [ho, hwt, if_true]
          refine .inl (wp_of_good (vop_sound hr.eval h) ?_ (fun ch w' q => q.elim))
          intro v w' hv
          cases hkp : has j keep with
          | false =>
            rw [hkp] at hv hp2
            refine ⟨fun q => by simp [hin, hkp] at q, ih _ _ _ _ _ (inv.set hri his) hp2 (fun q => by simp at q) hv (hr.put hd v)⟩
          | true =>
            rw [hkp] at hv hp2
            have hv : KeepS w0 w' (vopsG P ops.toList now keep w0 K r (e.putO o.dst v) w') := hv
            exact ⟨fun _ _ => hv.ex.1, ih _ _ _ _ _ (inv.set hri his) hp2 (fun _ => hv.ex.1) hv.ex.2 (hr.put hd v)⟩
      -- the operation is left
      have left : ∀ e : Env, Rel N e a → Region.wanted o (yielded ops a.tmps) = false → vopsG P ops.toList now keep w0 K r (e.putO o.dst undef) w → wpAnyG P ops Q (HeldW w0) (fun j => has j now && !has j keep) (r.length + 1) listed a w := by
        intro e hr hwt h
        have hnext : ∀ {s'}, planG ops now keep loads r s' (listed.setIfInBounds i true) = true → i ∈ Region.ready .any ops listed → (s' = true → HeldW w0 w) → wpAnyG P ops Q (HeldW w0) (fun j => has j now && !has j keep) r.length (listed.setIfInBounds i true) (a.put o.dst undef) w :=
          fun hp2 hri hs' => ih _ _ _ _ _ (inv.set hri his) hp2 hs' h (hr.put hd undef)
        cases hin : has i now with
        | false =>
          rw [hin] at hp1 hp2
          simp only [cond_false, Bool.and_eq_true, Bool.or_eq_true, Bool.not_eq_true'] at hp1
          obtain ⟨⟨hrd, hfr⟩, hld⟩ := hp1
          have hri : i ∈ Region.ready .any ops listed := by simpa using hrd
          refine wpAnyG_first (b := false) (n := ops.size) (v := undef) ho hseln (fun c a w q => by rw [hX] at q; exact q.elim) (fun q => by cases q) r.length listed a w inv (Region.free_spec ho hfr) hri (fun q => by cases q) (.inr ⟨hwt, rfl⟩) ?_
          refine hnext hp2 hri (fun q => hs ?_)
          simp only [Bool.and_eq_true] at q
          exact q.1
        | true =>
          rw [hin] at hp1 hp2
          simp only [cond_true, Bool.and_eq_true, decide_eq_true_eq] at hp1
          obtain ⟨hrd, _⟩ := hp1
          refine ⟨fun q => (by rw [hrd] at q; cases q), fun j hj => ?_⟩
          rw [hrd] at hj
          obtain rfl : j = i := by simpa using hj
          have hri : j ∈ Region.ready .any ops listed := by rw [hrd]; exact List.mem_cons_self
          unfold wpOp
          simp only [ho, hwt]
          exact ⟨fun _ q => q, hnext hp2 hri (fun q => hs (by simp only [Bool.and_eq_true] at q; exact q.1))⟩
      unfold stepG at h
      cases hg : o.guard with
      | none =>
        rw [hg] at h
        exact done e hr (by simp [Region.wanted, hg]) h
      | some jw =>
        obtain ⟨j, want⟩ := jw
        rw [hg] at h
        cases hsl : slotOf ops.toList j with
        | none => simp only [hsl] at h
        | some g =>
          simp only [hsl] at h
          have hwt := wanted_of (opsA := ops) hr hg hsl
          unfold guardK at h
          split at h
          · rename_i b heg
            rw [heg] at hwt
            by_cases hb : b = want
            · subst hb
              have h := h.all.1 rfl
              rw [Env.put_same heg] at h
              exact done e hr (by simpa using hwt) h
            · have hb' : b = !want := by cases b <;> cases want <;> first | rfl | exact absurd rfl hb
              have h2 := h.all.2 hb'
              clear h
              subst hb'
              rw [Env.put_same heg] at h2
              exact left e hr (by rw [hwt]; simp) h2
          · rename_i hne
            refine left e hr ?_ h
            rw [hwt]
            cases heg : e g <;> first | rfl | exact absurd heg (hne _)
theorem regG {N : Nat} {P : Program} {id : Nat} {ops : Array Oper} {K : Exit → Env → World → Prop} {e : Env} {w : World} (now keep loads plan : List Nat) (hok : okG N P ops now keep loads plan = true)
    (h : DrawS w fun w1 => vopsG P ops.toList now keep w1 (K .normal) plan e w1) : RegS N P id ops K e w := by
  simp only [okG, Bool.and_eq_true] at hok
  obtain ⟨⟨⟨⟨⟨hm, hsel⟩, hall⟩, hlen⟩, hnow⟩, hplan⟩ := hok
  have hs : SameW w { w with drawn := w.drawn + 1 } := ⟨rfl, rfl, rfl, rfl⟩
  have hlen := Nat.eq_of_beq_eq_true hlen
  refine ⟨fun a hr => ?_⟩
  have inv0 : HeadInv .any ops ops.size (Array.replicate ops.size false) :=
    ⟨by simp, fun j oj _ hl => (by rw [getD_replicate_false] at hl; cases hl), fun t ht ht' => absurd ht' (by omega)⟩
  have H := vopsG_sound (N := N) (Q := fun ex a' w' => match ex with | .normal => ∃ e', Rel N e' a' ∧ K .normal e' w' | _ => False) hsel
    (fun o ho => List.all_eq_true.1 hall o ho)
    (fun j hj => by
      have := List.all_eq_true.1 hnow j hj
      simp only [Bool.or_eq_true, List.all_eq_true] at this
      exact this)
    (fun e w a hk hr => ⟨e, hr, hk⟩) (fun c a w => rfl) plan true _ e a _ inv0 hplan (fun _ => HeldW.refl _) (h.all _ hs) hr
  rw [hlen] at H
  refine wp_mono (wp_region_any hm (wpAny_of_G _ _ _ _ H)) ?_
  intro ex a' w' q
  cases ex <;> first | exact q | exact q.elim
end Go.Proofs.YtjdgcgmhbhfpkaaDoorE
