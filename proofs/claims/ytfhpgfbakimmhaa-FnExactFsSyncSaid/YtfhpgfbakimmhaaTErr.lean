/- errors.Is on codes. -/
import Derived.Test.YtfhpgfbakimmhaaTRd
import Derived.Stop.Asserts
namespace Go.Proofs.YtfhpgfbakimmhaaE
open Go Go.RowKit Go.Stop
set_option linter.unusedVariables false
set_option maxRecDepth 100000
set_option maxHeartbeats 2000000

theorem asQ {P : Program} {s : Sem Value} {w : World} {v : Value} {K : Value → Prop} (h : s.run P w = .ok v w) (k : K v) : RunQ P s w K := ⟨_, h, k⟩
theorem asS {P : Program} {s : Sem Value} {w w' : World} {v : Value} {K : Value → World → Prop} (h : s.run P w = .ok v w') (k : K v w') : RunS P s w K := ⟨_, _, h, k⟩
theorem undIs : Try.prog.underlying 200 = some (.interface #[("Is", 202)]) := by kernel_rfl
theorem undUn : Try.prog.underlying 203 = some (.interface #[("Unwrap", 204)]) := by kernel_rfl
theorem undUs : Try.prog.underlying 205 = some (.interface #[("Unwrap", 207)]) := by kernel_rfl
theorem fs_noIs (v : Value) (xT : TypeId) (w : World) : (Instr.typeAssert (.iface 138 v) xT 200 true).run Try.prog w = .ok (.tuple #[.nilIface, .bool false]) w := run_typeAssert_lacksB undIs (by kernel_rfl) (by kernel_rfl) v xT w
theorem fs_noUn (v : Value) (xT : TypeId) (w : World) : (Instr.typeAssert (.iface 138 v) xT 203 true).run Try.prog w = .ok (.tuple #[.nilIface, .bool false]) w := run_typeAssert_lacksB undUn (by kernel_rfl) (by kernel_rfl) v xT w
theorem fs_noUs (v : Value) (xT : TypeId) (w : World) : (Instr.typeAssert (.iface 138 v) xT 205 true).run Try.prog w = .ok (.tuple #[.nilIface, .bool false]) w := run_typeAssert_lacksB undUs (by kernel_rfl) (by kernel_rfl) v xT w
theorem ok_eIs : callOK Try.prog 108 = true := by kernel_rfl
theorem errors_Is_nil {k : Int} {W : World} : GivesV Try.prog 108 [.nilIface, .iface 138 (.int .i64 k)] W (.bool false) := by
  have H := St.enter W
  refine calls_of_vcV (args := [.nilIface, .iface 138 (.int .i64 k)]) Try.func108 rfl (by kernel_rfl) (Nat.le_of_ble_eq_true rfl) ?_
  refine RegV.mk ?_
  refine gNf ?_
  refine ifT ?_
  exact Exists.intro _ (And.intro rfl (And.intro rfl H.none))
theorem ok_eis : callOK Try.prog 128 = true := by kernel_rfl
theorem errors_is {x k : Int} {W : World} : GivesV Try.prog 128 [.iface 138 (.int .i64 x), .iface 138 (.int .i64 k), .bool true] W (.bool (decide (x = k))) := by
  have H := St.enter W
  refine calls_of_vcV (args := [.iface 138 (.int .i64 x), .iface 138 (.int .i64 k), .bool true]) Try.func128 rfl (by kernel_rfl) (Nat.le_of_ble_eq_true rfl) ?_
  refine loopV (by kernel_rfl) (fun m e w => e 0 = .iface 138 (.int .i64 x) ∧ e 1 = .iface 138 (.int .i64 k) ∧ e 2 = .bool true ∧ St W.heap.size W w []) 0 ⟨rfl, rfl, rfl, H⟩ ?_
  rintro m e w ⟨h0, h1, h2, H⟩
  rw [Env.three h0 h1 h2]
  refine RegV.mk ?_
  refine gY ?_
  refine ifB (fun c2 => ?_) (fun c2 => ?_)
  · exact Exists.intro _ (And.intro rfl (And.intro (by rw [decide_eq_true c2]; rfl) H.none))
  · refine asS (fs_noIs _ _ _) ?_
    refine RegV.mk ?_
    refine gNt ?_
    refine ifF ?_
    refine asS (fs_noUn _ _ _) ?_
    refine ifF ?_
    refine asS (fs_noUs _ _ _) ?_
    refine ifF ?_
    exact Exists.intro _ (And.intro rfl (And.intro (by rw [decide_eq_false c2]; rfl) H.none))
noncomputable abbrev fsRT : Value := .iface 198 (.agg #[typeHandle Try.prog 138])
theorem fs_typeOf (v : Value) (w : World) : (callFunc 127 #[.iface 138 v]).run Try.prog w = .ok (.value fsRT) w := by
  rw [run_callFunc_extern (e := Extern.ReflectliteType.typeOf) Try.func127 (by kernel_rfl) (by kernel_rfl) (by kernel_rfl) (by kernel_rfl)]
  have h : (Extern.ReflectliteType.typeOf #[.iface 138 v]).run Try.prog w = .ok fsRT w := by kernel_rfl
  rw [h]; rfl
theorem fs_cmp {w : World} {K : Value → World → Prop} {X : List PanicEntry → World → Prop} (k : K (.bool true) w) : MethS Try.prog 198 (.agg #[typeHandle Try.prog 138]) "Comparable" [] w K X := by
  refine MethS.mk ⟨166, .agg #[typeHandle Try.prog 138], by kernel_rfl, ?_⟩
  have hrun : (callFunc 166 #[.agg #[typeHandle Try.prog 138]]).run Try.prog w = .ok (.value (.bool true)) w := by
    rw [run_callFunc_extern (e := Extern.ReflectliteType.method fun t => do Extern.Rtype.noPackHeld "Comparable" t; pure (.bool (← typeInfo t).comparable)) Try.func166 (by kernel_rfl) (by kernel_rfl) (by kernel_rfl) (by kernel_rfl)]
    have h : ((Extern.ReflectliteType.method fun t => do Extern.Rtype.noPackHeld "Comparable" t; pure (.bool (← typeInfo t).comparable)) #[.agg #[typeHandle Try.prog 138]]).run Try.prog w = .ok (.bool true) w := by kernel_rfl
    rw [h]; rfl
  exact CallS.ext hrun k
theorem errors_Is {x k : Int} {W : World} : GivesV Try.prog 108 [.iface 138 (.int .i64 x), .iface 138 (.int .i64 k)] W (.bool (decide (x = k))) := by
  have H := St.enter W
  refine calls_of_vcV (args := [.iface 138 (.int .i64 x), .iface 138 (.int .i64 k)]) Try.func108 rfl (by kernel_rfl) (Nat.le_of_ble_eq_true rfl) ?_
  refine RegV.mk ?_
  refine gY ?_
  refine ifF ?_
  (refine CallS.ext (fs_typeOf _ _) ?_)
  (refine fs_cmp ?_)
  refine callV ok_eis errors_is H fun w H => ?_
  exact Exists.intro _ (And.intro rfl (And.intro rfl H.none))
end Go.Proofs.YtfhpgfbakimmhaaE
