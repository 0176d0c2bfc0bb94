-- A text of this session, written by a program of its own over the kit's print.
import Derived.Test.YtnidonakekiloaaPAllx0
namespace Go.Proofs.Ytnidonakekiloaa.PAll
open Go.RowKit Go.Proofs.YtnidonakekiloaaW.PrintWords Go.Proofs.YtnidonakekiloaaW.PrintLast Go.Proofs.YtnidonakekiloaaW.PrintMore
attribute [local go_sem] max2_int min2_int max_two min_two max_three min_three max_four min_four   -- for this text's walks alone
set_option linter.unusedVariables false
set_option linter.unusedSimpArgs false

/-! ### errors_Is: function 44 -/
open Go.Extern.Stop Go.Stop Go.Extern
theorem isTypeOf76 (v : Value) (w : World) : (Extern.ReflectliteType.typeOf #[.iface 76 v]).run Try.prog w = .ok (.iface 93 (.agg #[.pointer (some ⟨1, 76, none⟩)])) w := by kernel_rfl
theorem isComparable76 (w : World) : ((Extern.ReflectliteType.method fun t => do Rtype.noPackHeld "Comparable" t; (fun a => Value.bool a.comparable) <$> typeInfo t) #[.agg #[.pointer (some ⟨1, 76, none⟩)]]).run Try.prog w = .ok (.bool true) w := by kernel_rfl
theorem eqLeaf76 (w : World) : (binOp .eql 71 (.iface 76 (.agg #[])) (.iface 76 (.agg #[]))).run Try.prog w = .ok (.bool true) w := by kernel_rfl
theorem isTypeOf77 (v : Value) (w : World) : (Extern.ReflectliteType.typeOf #[.iface 77 v]).run Try.prog w = .ok (.iface 93 (.agg #[.pointer (some ⟨1, 77, none⟩)])) w := by kernel_rfl
theorem isComparable77 (w : World) : ((Extern.ReflectliteType.method fun t => do Rtype.noPackHeld "Comparable" t; (fun a => Value.bool a.comparable) <$> typeInfo t) #[.agg #[.pointer (some ⟨1, 77, none⟩)]]).run Try.prog w = .ok (.bool true) w := by kernel_rfl
theorem eqLeaf77 (w : World) : (binOp .eql 71 (.iface 77 (.agg #[])) (.iface 77 (.agg #[]))).run Try.prog w = .ok (.bool true) w := by kernel_rfl
theorem noIs76 (v : Value) (xT : TypeId) (w : World) : (Instr.typeAssert (.iface 76 v) xT 95 true).run Try.prog w = .ok (.tuple #[.nilIface, .bool false]) w := run_typeAssert_lacksB Try.underlying95 (by kernel_rfl) (by kernel_rfl) v xT w
theorem noIs77 (v : Value) (xT : TypeId) (w : World) : (Instr.typeAssert (.iface 77 v) xT 95 true).run Try.prog w = .ok (.tuple #[.nilIface, .bool false]) w := run_typeAssert_lacksB Try.underlying95 (by kernel_rfl) (by kernel_rfl) v xT w
theorem noIs86 (v : Value) (xT : TypeId) (w : World) : (Instr.typeAssert (.iface 86 v) xT 95 true).run Try.prog w = .ok (.tuple #[.nilIface, .bool false]) w := run_typeAssert_lacksB Try.underlying95 (by kernel_rfl) (by kernel_rfl) v xT w
theorem noUnwrap76 (v : Value) (xT : TypeId) (w : World) : (Instr.typeAssert (.iface 76 v) xT 98 true).run Try.prog w = .ok (.tuple #[.nilIface, .bool false]) w := run_typeAssert_lacksB Try.underlying98 (by kernel_rfl) (by kernel_rfl) v xT w
theorem noUnwraps76 (v : Value) (xT : TypeId) (w : World) : (Instr.typeAssert (.iface 76 v) xT 100 true).run Try.prog w = .ok (.tuple #[.nilIface, .bool false]) w := run_typeAssert_lacksB Try.underlying100 (by kernel_rfl) (by kernel_rfl) v xT w
theorem noUnwrap77 (v : Value) (xT : TypeId) (w : World) : (Instr.typeAssert (.iface 77 v) xT 98 true).run Try.prog w = .ok (.tuple #[.nilIface, .bool false]) w := run_typeAssert_lacksB Try.underlying98 (by kernel_rfl) (by kernel_rfl) v xT w
theorem noUnwraps77 (v : Value) (xT : TypeId) (w : World) : (Instr.typeAssert (.iface 77 v) xT 100 true).run Try.prog w = .ok (.tuple #[.nilIface, .bool false]) w := run_typeAssert_lacksB Try.underlying100 (by kernel_rfl) (by kernel_rfl) v xT w
theorem hasUnwrap86 (v : Value) (xT : TypeId) (w : World) : (Instr.typeAssert (.iface 86 v) xT 98 true).run Try.prog w = .ok (.tuple #[.iface 86 v, .bool true]) w := run_typeAssert_hasB Try.underlying98 (by kernel_rfl) v xT w
theorem unwrap86 (x : Value) (w : World) : Calls Try.prog 76 #[.agg #[x]] w fun e w' => e = .returned x ∧ Below w.heap.size w w' := by
  go_enter Try.func76, Try.ntmps76
  go_wp2
  go_ret
  exact ⟨rfl, below_alloc (Below.refl _ _) _⟩
theorem isNil76 (w : World) : Calls Try.prog 44 #[.nilIface, .iface 76 (.agg #[])] w fun e w' => e = .returned (.bool false) ∧ Below w.heap.size w w' := by
  have hn := run_eql_iface_nil_left (P := Try.prog) w 76 (.agg #[]) Try.underlying71
  go_enter Try.func44, Try.ntmps44
  go_wp2
  go_ret
  exact ⟨rfl, Below.refl _ _⟩
set_option maxRecDepth 100000 in
set_option maxHeartbeats 1000000 in
theorem is86_76_76 (w : World) : Calls Try.prog 44 #[.iface 86 (.agg #[.iface 76 (.agg #[])]), .iface 76 (.agg #[])] w fun e w' => e = .returned (.bool true) ∧ Below w.heap.size w w' := by
  have h8 := @run_callFunc_extern Try.prog 53 _ Extern.ReflectliteType.typeOf Try.func53 (by kernel_rfl) (by kernel_rfl) (by kernel_rfl) (by kernel_rfl)
  have h32 := @run_callFunc_extern Try.prog 80 _ (Extern.ReflectliteType.method fun t => do Rtype.noPackHeld "Comparable" t; pure (.bool (← typeInfo t).comparable)) Try.func80 (by kernel_rfl) (by kernel_rfl) (by kernel_rfl) (by kernel_rfl)
  have tT := isTypeOf76
  have cT := isComparable76
  have mC : ∀ (v : Value) (w : World), (Go.method 235 93 v "Comparable").run Try.prog w = .ok (80, v) w := fun v w => by kernel_rfl
  have nW := noIs86
  have uW := hasUnwrap86
  have nL := noIs76
  have uL := noUnwrap76
  have vL := noUnwraps76
  have mU : ∀ (v : Value) (w : World), (Go.method 235 86 v "Unwrap").run Try.prog w = .ok (76, v) w := fun v w => by kernel_rfl
  have e2 : ∀ (x y : Value) (w : World), (binOp .eql 71 (.iface 86 x) (.iface 76 y)).run Try.prog w = .ok (.bool false) w := fun x y w => run_eql_iface_types (P := Try.prog) 86 76 x y Try.underlying71 (by decide) w
  have e3 : ∀ (t : TypeId) (x : Value) (w : World), (binOp .eql 71 (.iface t x) .nilIface).run Try.prog w = .ok (.bool false) w := fun t x w => run_eql_held_nil w 71 t x Try.underlying71
  have e1 := eqLeaf76
  go_enter Try.func44, Try.ntmps44
  go_wp2
  refine wp_loop_rounds 2 ?_
  rw [rounds_succ]
  go_wp2_with (go_at_call 76; refine (unwrap86 _ _).mono ?_; rintro e w1 ⟨rfl, h1⟩)
  rw [rounds_succ]
  go_wp2
  go_ret
  exact ⟨rfl, h1⟩
set_option maxRecDepth 100000 in
set_option maxHeartbeats 1000000 in
theorem is86_77_76 (w : World) : Calls Try.prog 44 #[.iface 86 (.agg #[.iface 77 (.agg #[])]), .iface 76 (.agg #[])] w fun e w' => e = .returned (.bool false) ∧ Below w.heap.size w w' := by
  have h8 := @run_callFunc_extern Try.prog 53 _ Extern.ReflectliteType.typeOf Try.func53 (by kernel_rfl) (by kernel_rfl) (by kernel_rfl) (by kernel_rfl)
  have h32 := @run_callFunc_extern Try.prog 80 _ (Extern.ReflectliteType.method fun t => do Rtype.noPackHeld "Comparable" t; pure (.bool (← typeInfo t).comparable)) Try.func80 (by kernel_rfl) (by kernel_rfl) (by kernel_rfl) (by kernel_rfl)
  have tT := isTypeOf76
  have cT := isComparable76
  have mC : ∀ (v : Value) (w : World), (Go.method 235 93 v "Comparable").run Try.prog w = .ok (80, v) w := fun v w => by kernel_rfl
  have nW := noIs86
  have uW := hasUnwrap86
  have nL := noIs77
  have uL := noUnwrap77
  have vL := noUnwraps77
  have mU : ∀ (v : Value) (w : World), (Go.method 235 86 v "Unwrap").run Try.prog w = .ok (76, v) w := fun v w => by kernel_rfl
  have e2 : ∀ (x y : Value) (w : World), (binOp .eql 71 (.iface 86 x) (.iface 76 y)).run Try.prog w = .ok (.bool false) w := fun x y w => run_eql_iface_types (P := Try.prog) 86 76 x y Try.underlying71 (by decide) w
  have e3 : ∀ (t : TypeId) (x : Value) (w : World), (binOp .eql 71 (.iface t x) .nilIface).run Try.prog w = .ok (.bool false) w := fun t x w => run_eql_held_nil w 71 t x Try.underlying71
  have e1 : ∀ (x y : Value) (w : World), (binOp .eql 71 (.iface 77 x) (.iface 76 y)).run Try.prog w = .ok (.bool false) w := fun x y w => run_eql_iface_types (P := Try.prog) 77 76 x y Try.underlying71 (by decide) w
  go_enter Try.func44, Try.ntmps44
  go_wp2
  refine wp_loop_rounds 2 ?_
  rw [rounds_succ]
  go_wp2_with (go_at_call 76; refine (unwrap86 _ _).mono ?_; rintro e w1 ⟨rfl, h1⟩)
  rw [rounds_succ]
  go_wp2
  go_ret
  exact ⟨rfl, h1⟩
theorem isNil77 (w : World) : Calls Try.prog 44 #[.nilIface, .iface 77 (.agg #[])] w fun e w' => e = .returned (.bool false) ∧ Below w.heap.size w w' := by
  have hn := run_eql_iface_nil_left (P := Try.prog) w 77 (.agg #[]) Try.underlying71
  go_enter Try.func44, Try.ntmps44
  go_wp2
  go_ret
  exact ⟨rfl, Below.refl _ _⟩
set_option maxRecDepth 100000 in
set_option maxHeartbeats 1000000 in
theorem is86_76_77 (w : World) : Calls Try.prog 44 #[.iface 86 (.agg #[.iface 76 (.agg #[])]), .iface 77 (.agg #[])] w fun e w' => e = .returned (.bool false) ∧ Below w.heap.size w w' := by
  have h8 := @run_callFunc_extern Try.prog 53 _ Extern.ReflectliteType.typeOf Try.func53 (by kernel_rfl) (by kernel_rfl) (by kernel_rfl) (by kernel_rfl)
  have h32 := @run_callFunc_extern Try.prog 80 _ (Extern.ReflectliteType.method fun t => do Rtype.noPackHeld "Comparable" t; pure (.bool (← typeInfo t).comparable)) Try.func80 (by kernel_rfl) (by kernel_rfl) (by kernel_rfl) (by kernel_rfl)
  have tT := isTypeOf77
  have cT := isComparable77
  have mC : ∀ (v : Value) (w : World), (Go.method 235 93 v "Comparable").run Try.prog w = .ok (80, v) w := fun v w => by kernel_rfl
  have nW := noIs86
  have uW := hasUnwrap86
  have nL := noIs76
  have uL := noUnwrap76
  have vL := noUnwraps76
  have mU : ∀ (v : Value) (w : World), (Go.method 235 86 v "Unwrap").run Try.prog w = .ok (76, v) w := fun v w => by kernel_rfl
  have e2 : ∀ (x y : Value) (w : World), (binOp .eql 71 (.iface 86 x) (.iface 77 y)).run Try.prog w = .ok (.bool false) w := fun x y w => run_eql_iface_types (P := Try.prog) 86 77 x y Try.underlying71 (by decide) w
  have e3 : ∀ (t : TypeId) (x : Value) (w : World), (binOp .eql 71 (.iface t x) .nilIface).run Try.prog w = .ok (.bool false) w := fun t x w => run_eql_held_nil w 71 t x Try.underlying71
  have e1 : ∀ (x y : Value) (w : World), (binOp .eql 71 (.iface 76 x) (.iface 77 y)).run Try.prog w = .ok (.bool false) w := fun x y w => run_eql_iface_types (P := Try.prog) 76 77 x y Try.underlying71 (by decide) w
  go_enter Try.func44, Try.ntmps44
  go_wp2
  refine wp_loop_rounds 2 ?_
  rw [rounds_succ]
  go_wp2_with (go_at_call 76; refine (unwrap86 _ _).mono ?_; rintro e w1 ⟨rfl, h1⟩)
  rw [rounds_succ]
  go_wp2
  go_ret
  exact ⟨rfl, h1⟩
set_option maxRecDepth 100000 in
set_option maxHeartbeats 1000000 in
theorem is86_77_77 (w : World) : Calls Try.prog 44 #[.iface 86 (.agg #[.iface 77 (.agg #[])]), .iface 77 (.agg #[])] w fun e w' => e = .returned (.bool true) ∧ Below w.heap.size w w' := by
  have h8 := @run_callFunc_extern Try.prog 53 _ Extern.ReflectliteType.typeOf Try.func53 (by kernel_rfl) (by kernel_rfl) (by kernel_rfl) (by kernel_rfl)
  have h32 := @run_callFunc_extern Try.prog 80 _ (Extern.ReflectliteType.method fun t => do Rtype.noPackHeld "Comparable" t; pure (.bool (← typeInfo t).comparable)) Try.func80 (by kernel_rfl) (by kernel_rfl) (by kernel_rfl) (by kernel_rfl)
  have tT := isTypeOf77
  have cT := isComparable77
  have mC : ∀ (v : Value) (w : World), (Go.method 235 93 v "Comparable").run Try.prog w = .ok (80, v) w := fun v w => by kernel_rfl
  have nW := noIs86
  have uW := hasUnwrap86
  have nL := noIs77
  have uL := noUnwrap77
  have vL := noUnwraps77
  have mU : ∀ (v : Value) (w : World), (Go.method 235 86 v "Unwrap").run Try.prog w = .ok (76, v) w := fun v w => by kernel_rfl
  have e2 : ∀ (x y : Value) (w : World), (binOp .eql 71 (.iface 86 x) (.iface 77 y)).run Try.prog w = .ok (.bool false) w := fun x y w => run_eql_iface_types (P := Try.prog) 86 77 x y Try.underlying71 (by decide) w
  have e3 : ∀ (t : TypeId) (x : Value) (w : World), (binOp .eql 71 (.iface t x) .nilIface).run Try.prog w = .ok (.bool false) w := fun t x w => run_eql_held_nil w 71 t x Try.underlying71
  have e1 := eqLeaf77
  go_enter Try.func44, Try.ntmps44
  go_wp2
  refine wp_loop_rounds 2 ?_
  rw [rounds_succ]
  go_wp2_with (go_at_call 76; refine (unwrap86 _ _).mono ?_; rintro e w1 ⟨rfl, h1⟩)
  rw [rounds_succ]
  go_wp2
  go_ret
  exact ⟨rfl, h1⟩
def errors_Is.f (a0 a1 : Option Int) : Option Bool := if a0 = none ∧ a1 = some 76 then some false else if a0 = some 86000076 ∧ a1 = some 76 then some true else if a0 = some 86000077 ∧ a1 = some 76 then some false else if a0 = none ∧ a1 = some 77 then some false else if a0 = some 86000076 ∧ a1 = some 77 then some false else if a0 = some 86000077 ∧ a1 = some 77 then some true else none
theorem errors_Is.calls (a0 a1 : Option Int) (r : Bool) (w : World) (h : errors_Is.f a0 a1 = some r) : Calls Try.prog 44 #[errW a0, errW a1] w fun e w' => e = .returned (.bool r) ∧ Below w.heap.size w w' := by
  unfold errors_Is.f at h
  by_cases c0 : a0 = none ∧ a1 = some 76
  · rw [if_pos c0] at h
    obtain ⟨rfl, rfl⟩ := c0
    obtain rfl := Option.some.inj h
    exact isNil76 w
  rw [if_neg c0] at h
  by_cases c1 : a0 = some 86000076 ∧ a1 = some 76
  · rw [if_pos c1] at h
    obtain ⟨rfl, rfl⟩ := c1
    obtain rfl := Option.some.inj h
    exact is86_76_76 w
  rw [if_neg c1] at h
  by_cases c2 : a0 = some 86000077 ∧ a1 = some 76
  · rw [if_pos c2] at h
    obtain ⟨rfl, rfl⟩ := c2
    obtain rfl := Option.some.inj h
    exact is86_77_76 w
  rw [if_neg c2] at h
  by_cases c3 : a0 = none ∧ a1 = some 77
  · rw [if_pos c3] at h
    obtain ⟨rfl, rfl⟩ := c3
    obtain rfl := Option.some.inj h
    exact isNil77 w
  rw [if_neg c3] at h
  by_cases c4 : a0 = some 86000076 ∧ a1 = some 77
  · rw [if_pos c4] at h
    obtain ⟨rfl, rfl⟩ := c4
    obtain rfl := Option.some.inj h
    exact is86_76_77 w
  rw [if_neg c4] at h
  by_cases c5 : a0 = some 86000077 ∧ a1 = some 77
  · rw [if_pos c5] at h
    obtain ⟨rfl, rfl⟩ := c5
    obtain rfl := Option.some.inj h
    exact is86_77_77 w
  rw [if_neg c5] at h
  cases h
end Go.Proofs.Ytnidonakekiloaa.PAll
