/- Drawn regions told as a tree of orders: where two operations that do something may come in either order, both are told. No condition of the laws stands here. -/
import Derived.Test.YtfhpgfbakimmhaaEngG
namespace Go.Proofs.YtfhpgfbakimmhaaE
open Go Go.RowKit
set_option linter.unusedVariables false
set_option maxRecDepth 100000
set_option linter.unusedSimpArgs false

inductive PT where
  | nil
  | one (i : Nat) (r : PT)
  | fork (a b : PT)
def PT.heads : PT → List Nat
  | .nil => []
  | .one i _ => [i]
  | .fork a b => a.heads ++ b.heads
def PT.len : PT → Nat
  | .nil => 0
  | .one _ r => r.len + 1
  | .fork a _ => a.len
def PT.of : List Nat → PT → PT
  | [], p => p
  | i :: r, p => .one i (PT.of r p)
structure ForkS (X Y : Prop) : Prop where
  both : X ∧ Y
noncomputable def vopsT (P : Program) (ops : List Oper) (now keep : List Nat) (w0 : World) (K : Env → World → Prop) (p : PT) : Env → World → Prop :=
  PT.rec (motive := fun _ => Env → World → Prop) (fun e w => K e w)
    (fun i _ ih e w => Option.rec (motive := fun _ => Prop) False (fun o => stepG P ops now keep w0 i ih e w o) (nthO ops i))
    (fun _ _ ia ib e w => ForkS (ia e w) (ib e w)) p
def planT (ops : Array Oper) (now keep loads : List Nat) : PT → Bool → Bool → Array Bool → Bool
  | .nil, _, fk, listed => !fk && (Region.ready .any ops listed).isEmpty
  | .one i r, s, fk, listed =>
    match ops[i]? with
    | none => false
    | some o =>
      (bif has i now then (fk || decide (Region.ready .any ops listed = [i])) && (has i keep || loads.all fun h => reachN ops ops.size i h)
       else !fk && ((Region.ready .any ops listed).contains i && Region.free .any ops listed i && (!isLoad o || (s && has i loads)))) &&
      planT ops now keep loads r (s && (!has i now || has i keep)) false (listed.setIfInBounds i true)
  | .fork a b, s, fk, listed => (fk || decide (Region.ready .any ops listed = a.heads ++ b.heads)) && Nat.beq a.len b.len && planT ops now keep loads a s true listed && planT ops now keep loads b s true listed
def okT (N : Nat) (P : Program) (ops : Array Oper) (now keep loads : List Nat) (p : PT) : Bool :=
  P.follows .mixedOrders && Region.noSelect ops && (ops.toList.all fun o => dstOK N o) && Nat.beq p.len ops.size &&
  (now.all fun j => has j keep || loads.all fun h => reachN ops ops.size j h) && planT ops now keep loads p true false (Array.replicate ops.size false)
theorem vopsT_sound {N : Nat} {P : Program} {ops : Array Oper} {now keep loads : List Nat} {w0 : World} {K : Env → World → Prop} {Q : Exit → Act → World → Prop} (hsel : Region.noSelect ops = true)
    (hall : ∀ o ∈ ops.toList, dstOK N o = true) (hnow : ∀ j ∈ now, has j keep = true ∨ ∀ h ∈ loads, reachN ops ops.size j h = true)
    (hK : ∀ e w a, K e w → Rel N e a → Q .normal a w) (hX : ∀ c a w, Q (.panic c) a w = False) :
    ∀ (p : PT) (s fk : Bool) (listed : Array Bool) (e : Env) (a : Act) (w : World), HeadInv .any ops ops.size listed → planT ops now keep loads p s fk listed = true → (s = true → HeldW w0 w) →
      vopsT P ops.toList now keep w0 K p e w → Rel N e a →
      (fk = false → wpAnyG P ops Q (HeldW w0) (fun j => has j now && !has j keep) p.len listed a w) ∧
      (fk = true → 0 < p.len ∧ ∀ i ∈ p.heads, i ∈ Region.ready .any ops listed → wpOp P ops Q i (fun a' w' => ((has i now && !has i keep) = false → HeldW w0 w → HeldW w0 w') ∧ wpAnyG P ops Q (HeldW w0) (fun j => has j now && !has j keep) (p.len - 1) (listed.setIfInBounds i true) a' w') a w) := by
  intro p
  induction p with
  | nil =>
    intro s fk listed e a w inv hp _ h hr
    cases fk with
    | true => simp [planT] at hp
    | false => exact ⟨fun _ => ⟨by simpa [planT] using hp, hK _ _ _ h hr⟩, fun q => by cases q⟩
  | fork x y ihx ihy =>
    intro s fk listed e a w inv hp hs h hr
    simp only [planT, Bool.and_eq_true] at hp
    obtain ⟨⟨⟨hrd, hlen⟩, hpx⟩, hpy⟩ := hp
    have hlen := Nat.eq_of_beq_eq_true hlen
    have h : ForkS (vopsT P ops.toList now keep w0 K x e w) (vopsT P ops.toList now keep w0 K y e w) := h
    have hx := (ihx s true listed e a w inv hpx hs h.both.1 hr).2 rfl
    have hy := (ihy s true listed e a w inv hpy hs h.both.2 hr).2 rfl
    have both : ∀ i ∈ x.heads ++ y.heads, i ∈ Region.ready .any ops listed → wpOp P ops Q i (fun a' w' => ((has i now && !has i keep) = false → HeldW w0 w → HeldW w0 w') ∧ wpAnyG P ops Q (HeldW w0) (fun j => has j now && !has j keep) (x.len - 1) (listed.setIfInBounds i true) a' w') a w := by
      intro i hi hir
      rcases List.mem_append.1 hi with q | q
      · exact hx.2 i q hir
      · have := hy.2 i q hir
        rw [← hlen] at this; exact this
    refine ⟨fun hf => ?_, fun _ => ⟨hx.1, both⟩⟩
    subst hf
    simp only [Bool.false_or, decide_eq_true_eq] at hrd
    have e1 : (PT.fork x y).len = x.len - 1 + 1 := by show x.len = _; have := hx.1; omega
    rw [e1]
    refine ⟨fun q => ?_, fun j hj => both j (hrd ▸ hj) hj⟩
    exfalso
    have hne : x.heads ++ y.heads = [] := hrd.symm.trans q
    obtain ⟨hxe, _⟩ := List.append_eq_nil_iff.1 hne
    have gen : ∀ p : PT, 0 < p.len → p.heads ≠ [] := by
      intro p
      induction p with
      | nil => intro h; cases h
      | one i r _ => intro _ h; cases h
      | fork a b iha _ => intro h q; exact iha h (List.append_eq_nil_iff.1 q).1
    exact gen x hx.1 hxe
  | one i r ih =>
    intro s fk listed e a w inv hp hs h hr
    cases ho : ops[i]? with
    | none => simp [planT, ho] at hp
    | some o =>
      simp only [planT, ho, Bool.and_eq_true] at hp
      obtain ⟨hp1, hp2⟩ := hp
      have hn : nthO ops.toList i = some o := by rw [nthO_eq]; simpa using ho
      have him : o ∈ ops.toList := List.mem_of_getElem? (l := ops.toList) (i := i) (a := o) (by simpa using ho)
      have hd := hall o him
      have his : i < ops.size := (Array.getElem?_eq_some_iff.1 ho).1
      have h : Option.rec (motive := fun _ => Prop) False (fun o => stepG P ops.toList now keep w0 i (vopsT P ops.toList now keep w0 K r) e w o) (nthO ops.toList i) := h
      rw [hn] at h
      have h : stepG P ops.toList now keep w0 i (vopsT P ops.toList now keep w0 K r) e w o := h
      have hseln := Region.noSelect_spec hsel
      have ih' : ∀ {s'} {e a w}, planT ops now keep loads r s' false (listed.setIfInBounds i true) = true → (s' = true → HeldW w0 w) → i ∈ Region.ready .any ops listed → vopsT P ops.toList now keep w0 K r e w → Rel N e a → wpAnyG P ops Q (HeldW w0) (fun j => has j now && !has j keep) r.len (listed.setIfInBounds i true) a w :=
        fun hp2 hs' hri h hr => (ih _ false _ _ _ _ (inv.set hri his) hp2 hs' h hr).1 rfl
      cases hin : has i now with
      | false =>
        rw [hin] at hp1 hp2
        simp only [cond_false, Bool.and_eq_true, Bool.or_eq_true, Bool.not_eq_true'] at hp1
        obtain ⟨hfk, ⟨hrd, hfr⟩, hld⟩ := hp1
        subst hfk
        have hri : i ∈ Region.ready .any ops listed := by simpa using hrd
        refine ⟨fun _ => ?_, fun q => by cases q⟩
        have done : ∀ e : Env, Rel N e a → Region.wanted o (yielded ops a.tmps) = true → doG P now keep w0 i o (vopsT P ops.toList now keep w0 K r) e w → wpAnyG P ops Q (HeldW w0) (fun j => has j now && !has j keep) (r.len + 1) listed a w := by
          intro e hr hwt h
          unfold doG at h
          have h : vopG P o e w0 fun v => vopsT P ops.toList now keep w0 K r (e.putO o.dst v) w := by simpa only [hin] using h
          obtain ⟨v, hk, hrun⟩ := vopG_run h
          refine wpAnyG_first (b := isLoad o) (n := ops.size) (v := v) ho hseln (fun c a w q => by rw [hX] at q; exact q.elim) ?_ r.len listed a w inv (Region.free_spec ho hfr) hri ?_ ?_ ?_
          · intro hb j hj
            simp only [Bool.and_eq_true, Bool.not_eq_true'] at hj
            rcases hld with hld | hld
            · rw [hb] at hld; cases hld
            · rcases hnow j (has_mem hj.1) with q | q
              · rw [hj.2] at q; cases q
              · exact q i (has_mem hld.2)
          · intro hb
            rcases hld with hld | hld
            · rw [hb] at hld; cases hld
            · exact hs hld.1
          · exact .inl ⟨hwt, fun w' hw' => by rw [hr.eval]; exact hrun w' hw'⟩
          · refine ih' hp2 (fun q => hs ?_) hri hk (hr.put hd v)
            simp only [Bool.and_eq_true] at q
            exact q.1
        have left : ∀ e : Env, Rel N e a → Region.wanted o (yielded ops a.tmps) = false → vopsT P ops.toList now keep w0 K r (e.putO o.dst undef) w → wpAnyG P ops Q (HeldW w0) (fun j => has j now && !has j keep) (r.len + 1) listed a w := by
          intro e hr hwt h
          refine wpAnyG_first (b := false) (n := ops.size) (v := undef) ho hseln (fun c a w q => by rw [hX] at q; exact q.elim) (fun q => by cases q) r.len listed a w inv (Region.free_spec ho hfr) hri (fun q => by cases q) (.inr ⟨hwt, rfl⟩) ?_
          refine ih' hp2 (fun q => hs ?_) hri h (hr.put hd undef)
          simp only [Bool.and_eq_true] at q
          exact q.1
        unfold stepG at h
        cases hg : o.guard with
        | none =>
          rw [hg] at h
          exact done e hr (by simp [Region.wanted, hg]) h
        | some jw =>
          obtain ⟨j, want⟩ := jw
          rw [hg] at h
          cases hsl : slotOf ops.toList j with
          | none => simp only [hsl] at h
          | some g =>
            simp only [hsl] at h
            have hwt := wanted_of (opsA := ops) hr hg hsl
            unfold guardK at h
            split at h
            · rename_i b heg
              rw [heg] at hwt
              by_cases hb : b = want
              · subst hb
                have h := h.all.1 rfl
                rw [Env.put_same heg] at h
                exact done e hr (by simpa using hwt) h
              · have hb' : b = !want := by cases b <;> cases want <;> first | rfl | exact absurd rfl hb
                have h2 := h.all.2 hb'
                clear h
                subst hb'
                rw [Env.put_same heg] at h2
                exact left e hr (by rw [hwt]; simp) h2
            · rename_i hne
              refine left e hr ?_ h
              rw [hwt]
              cases heg : e g <;> first | rfl | exact absurd heg (hne _)
      | true =>
        rw [hin] at hp1 hp2
        simp only [cond_true, Bool.and_eq_true, Bool.or_eq_true, decide_eq_true_eq] at hp1
        obtain ⟨hrd, _⟩ := hp1
        -- the operation itself
        have core : i ∈ Region.ready .any ops listed → wpOp P ops Q i (fun a' w' => ((has i now && !has i keep) = false → HeldW w0 w → HeldW w0 w') ∧ wpAnyG P ops Q (HeldW w0) (fun j => has j now && !has j keep) r.len (listed.setIfInBounds i true) a' w') a w := by
          intro hri
          have done : ∀ e : Env, Rel N e a → Region.wanted o (yielded ops a.tmps) = true → doG P now keep w0 i o (vopsT P ops.toList now keep w0 K r) e w → wpOp P ops Q i (fun a' w' => ((has i now && !has i keep) = false → HeldW w0 w → HeldW w0 w') ∧ wpAnyG P ops Q (HeldW w0) (fun j => has j now && !has j keep) r.len (listed.setIfInBounds i true) a' w') a w := by
            intro e hr hwt h
            unfold doG at h
            have h : vopV P o e w (fun v w' => Bool.rec (motive := fun _ => Prop) (vopsT P ops.toList now keep w0 K r (e.putO o.dst v) w') (KeepS w0 w' (vopsT P ops.toList now keep w0 K r (e.putO o.dst v) w')) (has i keep)) (fun _ _ => False) := by simpa only [hin] using h
            rw [vopV_eq] at h
            unfold wpOp
            simp only [ho, hwt, if_true]
            refine .inl (wp_of_good (vop_sound hr.eval h) ?_ (fun ch w' q => q.elim))
            intro v w' hv
            cases hkp : has i keep with
            | false =>
              rw [hkp] at hv hp2
              refine ⟨fun q => by simp [hin, hkp] at q, ih' hp2 (fun q => by simp at q) hri hv (hr.put hd v)⟩
            | true =>
              rw [hkp] at hv hp2
              have hv : KeepS w0 w' (vopsT P ops.toList now keep w0 K r (e.putO o.dst v) w') := hv
              exact ⟨fun _ _ => hv.ex.1, ih' hp2 (fun _ => hv.ex.1) hri hv.ex.2 (hr.put hd v)⟩
          have left : ∀ e : Env, Rel N e a → Region.wanted o (yielded ops a.tmps) = false → vopsT P ops.toList now keep w0 K r (e.putO o.dst undef) w → wpOp P ops Q i (fun a' w' => ((has i now && !has i keep) = false → HeldW w0 w → HeldW w0 w') ∧ wpAnyG P ops Q (HeldW w0) (fun j => has j now && !has j keep) r.len (listed.setIfInBounds i true) a' w') a w := by
            intro e hr hwt h
            unfold wpOp
            simp only [ho, hwt]
            exact ⟨fun _ q => q, ih' hp2 (fun q => hs (by simp only [Bool.and_eq_true] at q; exact q.1)) hri h (hr.put hd undef)⟩
          unfold stepG at h
          cases hg : o.guard with
          | none =>
            rw [hg] at h
            exact done e hr (by simp [Region.wanted, hg]) h
          | some jw =>
            obtain ⟨j, want⟩ := jw
            rw [hg] at h
            cases hsl : slotOf ops.toList j with
            | none => simp only [hsl] at h
            | some g =>
              simp only [hsl] at h
              have hwt := wanted_of (opsA := ops) hr hg hsl
              unfold guardK at h
              split at h
              · rename_i b heg
                rw [heg] at hwt
                by_cases hb : b = want
                · subst hb
                  have h := h.all.1 rfl
                  rw [Env.put_same heg] at h
                  exact done e hr (by simpa using hwt) h
                · have hb' : b = !want := by cases b <;> cases want <;> first | rfl | exact absurd rfl hb
                  have h2 := h.all.2 hb'
                  clear h
                  subst hb'
                  rw [Env.put_same heg] at h2
                  exact left e hr (by rw [hwt]; simp) h2
              · rename_i hne
                refine left e hr ?_ h
                rw [hwt]
                cases heg : e g <;> first | rfl | exact absurd heg (hne _)
        refine ⟨fun hf => ?_, fun _ => ⟨Nat.succ_pos _, fun j hj hjr => ?_⟩⟩
        · subst hf
          rcases hrd with hrd | hrd
          · cases hrd
          refine ⟨fun q => (by rw [hrd] at q; cases q), fun j hj => ?_⟩
          have hj' := hj
          rw [hrd] at hj'
          obtain rfl : j = i := by simpa using hj'
          exact core hj
        · obtain rfl : j = i := by simpa [PT.heads] using hj
          exact core hjr
theorem regT {N : Nat} {P : Program} {id : Nat} {ops : Array Oper} {K : Exit → Env → World → Prop} {e : Env} {w : World} (now keep loads : List Nat) (p : PT) (hok : okT N P ops now keep loads p = true)
    (h : DrawS w fun w1 => vopsT P ops.toList now keep w1 (K .normal) p e w1) : RegS N P id ops K e w := by
  simp only [okT, Bool.and_eq_true] at hok
  obtain ⟨⟨⟨⟨⟨hm, hsel⟩, hall⟩, hlen⟩, hnow⟩, hplan⟩ := hok
  have hs : SameW w { w with drawn := w.drawn + 1 } := ⟨rfl, rfl, rfl, rfl⟩
  have hlen := Nat.eq_of_beq_eq_true hlen
  refine ⟨fun a hr => ?_⟩
  have inv0 : HeadInv .any ops ops.size (Array.replicate ops.size false) :=
    ⟨by simp, fun j oj _ hl => (by rw [getD_replicate_false] at hl; cases hl), fun t ht ht' => absurd ht' (by omega)⟩
  have H := (vopsT_sound (N := N) (Q := fun ex a' w' => match ex with | .normal => ∃ e', Rel N e' a' ∧ K .normal e' w' | _ => False) hsel
    (fun o ho => List.all_eq_true.1 hall o ho)
    (fun j hj => by
      have := List.all_eq_true.1 hnow j hj
      simp only [Bool.or_eq_true, List.all_eq_true] at this
      exact this)
    (fun e w a hk hr => ⟨e, hr, hk⟩) (fun c a w => rfl) p true false _ e a _ inv0 hplan (fun _ => HeldW.refl _) (h.all _ hs) hr).1 rfl
  rw [hlen] at H
  refine wp_mono (wp_region_any hm (wpAny_of_G _ _ _ _ H)) ?_
  intro ex a' w' q
  cases ex <;> first | exact q | exact q.elim
/-- a drawn region's end, said once -/
theorem cutReg {N : Nat} {P : Program} {id : Nat} {ops : Array Oper} {K : Exit → Env → World → Prop} {e : Env} {w : World} (J : Env → World → Prop) (h : RegS N P id ops (fun ex e w => match ex with | .normal => J e w | ex => K ex e w) e w) (k : ∀ e w, J e w → K .normal e w) : RegS N P id ops K e w :=
  ⟨fun a hr => wp_mono (h.sem a hr) fun ex a' w' ⟨e', hr', hk⟩ => ⟨e', hr', by cases ex <;> first | exact k _ _ hk | exact hk⟩⟩
end Go.Proofs.YtfhpgfbakimmhaaE
