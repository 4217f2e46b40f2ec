/- A call by its contract, as a step of a region that draws. -/
import Derived.Test.YtnmpafcflfjhgaaGreatBase
import Derived.Deep.RegionLaw
namespace Go.Proofs.YtnmpafcflfjhgaaGreat
open Go.RowKit
/-- A call by its contract, as a step of a region that draws. -/
theorem step_call0_H {P : Program} {ops : Array Oper} {o : Oper} {a : Act} {w : World} {K : Act → World → Prop} {Q : Exit → Act → World → Prop} {E : Prop} (hgd : o.guard = none)
    (f : FuncId) (fn : Func) (hfn : P.funcs[f]? = some fn) (hn1 : (fn.name == "runtime.NumGoroutine") = false) (hn2 : fn.body.isSome = true) (ts : Array TypeId) (ho : o.op = .call { callee := .value (.func f), args := #[], argTypes := ts }) (v : Value) (S : World → Prop) (hc : Calls P f #[] w fun e w' => e = .returned v ∧ S w')
    (h : ∀ w', S w' → K (a.put o.dst v) w') : if Region.wanted o (yielded ops a.tmps) = true then Oper.wp P o a w K Q else E := by
  have hw : Region.wanted o (yielded ops a.tmps) = true := by simp [Region.wanted, hgd]
  rw [if_pos hw]
  unfold Oper.wp
  have hrun : (execOp a.eval o).run P w = .ok (.enter f #[]) w := by
    unfold execOp
    have hn3 : fn.name ≠ "runtime.NumGoroutine" := by simpa using hn1
    obtain ⟨cd, hn4⟩ := Option.isSome_iff_exists.1 hn2
    have hf : a.eval (.func f) = .func (.func f) #[] #[] := rfl
    simp [ho, resolve,  hf, Deferred.ofValue, invoke, Result.andThen, callFunc, hfn, hn3, hn4]
  rw [hrun, Oper.upon_enter]
  refine hc.mono fun e w' hh => ?_
  obtain ⟨rfl, h2⟩ := hh
  exact h _ h2
/-- A call by its contract, as a step of a region that draws. -/
theorem step_call1_H {P : Program} {ops : Array Oper} {o : Oper} {a : Act} {w : World} {K : Act → World → Prop} {Q : Exit → Act → World → Prop} {E : Prop} (hgd : o.guard = none)
    (f : FuncId) (fn : Func) (hfn : P.funcs[f]? = some fn) (hn1 : (fn.name == "runtime.NumGoroutine") = false) (hn2 : fn.body.isSome = true) (x0 : Operand) (ts : Array TypeId) (ho : o.op = .call { callee := .value (.func f), args := #[x0], argTypes := ts }) (v0 : Value) (h0 : a.eval x0 = v0) (v : Value) (S : World → Prop) (hc : Calls P f #[v0] w fun e w' => e = .returned v ∧ S w')
    (h : ∀ w', S w' → K (a.put o.dst v) w') : if Region.wanted o (yielded ops a.tmps) = true then Oper.wp P o a w K Q else E := by
  have hw : Region.wanted o (yielded ops a.tmps) = true := by simp [Region.wanted, hgd]
  rw [if_pos hw]
  unfold Oper.wp
  have hrun : (execOp a.eval o).run P w = .ok (.enter f #[v0]) w := by
    unfold execOp
    have hn3 : fn.name ≠ "runtime.NumGoroutine" := by simpa using hn1
    obtain ⟨cd, hn4⟩ := Option.isSome_iff_exists.1 hn2
    have hf : a.eval (.func f) = .func (.func f) #[] #[] := rfl
    simp [ho, resolve, List.map_toArray, h0, hf, Deferred.ofValue, invoke, Result.andThen, callFunc, hfn, hn3, hn4]
  rw [hrun, Oper.upon_enter]
  refine hc.mono fun e w' hh => ?_
  obtain ⟨rfl, h2⟩ := hh
  exact h _ h2
/-- A call by its contract, as a step of a region that draws. -/
theorem step_call2_H {P : Program} {ops : Array Oper} {o : Oper} {a : Act} {w : World} {K : Act → World → Prop} {Q : Exit → Act → World → Prop} {E : Prop} (hgd : o.guard = none)
    (f : FuncId) (fn : Func) (hfn : P.funcs[f]? = some fn) (hn1 : (fn.name == "runtime.NumGoroutine") = false) (hn2 : fn.body.isSome = true) (x0 x1 : Operand) (ts : Array TypeId) (ho : o.op = .call { callee := .value (.func f), args := #[x0, x1], argTypes := ts }) (v0 v1 : Value) (h0 : a.eval x0 = v0) (h1 : a.eval x1 = v1) (v : Value) (S : World → Prop) (hc : Calls P f #[v0, v1] w fun e w' => e = .returned v ∧ S w')
    (h : ∀ w', S w' → K (a.put o.dst v) w') : if Region.wanted o (yielded ops a.tmps) = true then Oper.wp P o a w K Q else E := by
  have hw : Region.wanted o (yielded ops a.tmps) = true := by simp [Region.wanted, hgd]
  rw [if_pos hw]
  unfold Oper.wp
  have hrun : (execOp a.eval o).run P w = .ok (.enter f #[v0, v1]) w := by
    unfold execOp
    have hn3 : fn.name ≠ "runtime.NumGoroutine" := by simpa using hn1
    obtain ⟨cd, hn4⟩ := Option.isSome_iff_exists.1 hn2
    have hf : a.eval (.func f) = .func (.func f) #[] #[] := rfl
    simp [ho, resolve, List.map_toArray, h0, h1, hf, Deferred.ofValue, invoke, Result.andThen, callFunc, hfn, hn3, hn4]
  rw [hrun, Oper.upon_enter]
  refine hc.mono fun e w' hh => ?_
  obtain ⟨rfl, h2⟩ := hh
  exact h _ h2
/-- A call by its contract, as a step of a region that draws. -/
theorem step_call3_H {P : Program} {ops : Array Oper} {o : Oper} {a : Act} {w : World} {K : Act → World → Prop} {Q : Exit → Act → World → Prop} {E : Prop} (hgd : o.guard = none)
    (f : FuncId) (fn : Func) (hfn : P.funcs[f]? = some fn) (hn1 : (fn.name == "runtime.NumGoroutine") = false) (hn2 : fn.body.isSome = true) (x0 x1 x2 : Operand) (ts : Array TypeId) (ho : o.op = .call { callee := .value (.func f), args := #[x0, x1, x2], argTypes := ts }) (v0 v1 v2 : Value) (h0 : a.eval x0 = v0) (h1 : a.eval x1 = v1) (h2 : a.eval x2 = v2) (v : Value) (S : World → Prop) (hc : Calls P f #[v0, v1, v2] w fun e w' => e = .returned v ∧ S w')
    (h : ∀ w', S w' → K (a.put o.dst v) w') : if Region.wanted o (yielded ops a.tmps) = true then Oper.wp P o a w K Q else E := by
  have hw : Region.wanted o (yielded ops a.tmps) = true := by simp [Region.wanted, hgd]
  rw [if_pos hw]
  unfold Oper.wp
  have hrun : (execOp a.eval o).run P w = .ok (.enter f #[v0, v1, v2]) w := by
    unfold execOp
    have hn3 : fn.name ≠ "runtime.NumGoroutine" := by simpa using hn1
    obtain ⟨cd, hn4⟩ := Option.isSome_iff_exists.1 hn2
    have hf : a.eval (.func f) = .func (.func f) #[] #[] := rfl
    simp [ho, resolve, List.map_toArray, h0, h1, h2, hf, Deferred.ofValue, invoke, Result.andThen, callFunc, hfn, hn3, hn4]
  rw [hrun, Oper.upon_enter]
  refine hc.mono fun e w' hh => ?_
  obtain ⟨rfl, hh2⟩ := hh
  exact h _ hh2
/-- A call by its contract, as a step of a region that draws. -/
theorem step_call0_E {P : Program} {ops : Array Oper} {o : Oper} {a : Act} {w : World} {K : Act → World → Prop} {Q : Exit → Act → World → Prop} {E : Prop} (hgd : o.guard = none)
    (f : FuncId) (fn : Func) (hfn : P.funcs[f]? = some fn) (hn1 : (fn.name == "runtime.NumGoroutine") = false) (hn2 : fn.body.isSome = true) (ts : Array TypeId) (ho : o.op = .call { callee := .value (.func f), args := #[], argTypes := ts }) (S : Value → World → Prop) (hc : Calls P f #[] w fun e w' => ∃ v, e = .returned v ∧ S v w')
    (h : ∀ v w', S v w' → K (a.put o.dst v) w') : if Region.wanted o (yielded ops a.tmps) = true then Oper.wp P o a w K Q else E := by
  have hw : Region.wanted o (yielded ops a.tmps) = true := by simp [Region.wanted, hgd]
  rw [if_pos hw]
  unfold Oper.wp
  have hrun : (execOp a.eval o).run P w = .ok (.enter f #[]) w := by
    unfold execOp
    have hn3 : fn.name ≠ "runtime.NumGoroutine" := by simpa using hn1
    obtain ⟨cd, hn4⟩ := Option.isSome_iff_exists.1 hn2
    have hf : a.eval (.func f) = .func (.func f) #[] #[] := rfl
    simp [ho, resolve,  hf, Deferred.ofValue, invoke, Result.andThen, callFunc, hfn, hn3, hn4]
  rw [hrun, Oper.upon_enter]
  refine hc.mono fun e w' hh => ?_
  obtain ⟨v, rfl, hh2⟩ := hh
  exact h _ _ hh2
/-- A call by its contract, as a step of a region that draws. -/
theorem step_call1_E {P : Program} {ops : Array Oper} {o : Oper} {a : Act} {w : World} {K : Act → World → Prop} {Q : Exit → Act → World → Prop} {E : Prop} (hgd : o.guard = none)
    (f : FuncId) (fn : Func) (hfn : P.funcs[f]? = some fn) (hn1 : (fn.name == "runtime.NumGoroutine") = false) (hn2 : fn.body.isSome = true) (x0 : Operand) (ts : Array TypeId) (ho : o.op = .call { callee := .value (.func f), args := #[x0], argTypes := ts }) (v0 : Value) (h0 : a.eval x0 = v0) (S : Value → World → Prop) (hc : Calls P f #[v0] w fun e w' => ∃ v, e = .returned v ∧ S v w')
    (h : ∀ v w', S v w' → K (a.put o.dst v) w') : if Region.wanted o (yielded ops a.tmps) = true then Oper.wp P o a w K Q else E := by
  have hw : Region.wanted o (yielded ops a.tmps) = true := by simp [Region.wanted, hgd]
  rw [if_pos hw]
  unfold Oper.wp
  have hrun : (execOp a.eval o).run P w = .ok (.enter f #[v0]) w := by
    unfold execOp
    have hn3 : fn.name ≠ "runtime.NumGoroutine" := by simpa using hn1
    obtain ⟨cd, hn4⟩ := Option.isSome_iff_exists.1 hn2
    have hf : a.eval (.func f) = .func (.func f) #[] #[] := rfl
    simp [ho, resolve, List.map_toArray, h0, hf, Deferred.ofValue, invoke, Result.andThen, callFunc, hfn, hn3, hn4]
  rw [hrun, Oper.upon_enter]
  refine hc.mono fun e w' hh => ?_
  obtain ⟨v, rfl, hh2⟩ := hh
  exact h _ _ hh2
/-- A call by its contract, as a step of a region that draws. -/
theorem step_call2_E {P : Program} {ops : Array Oper} {o : Oper} {a : Act} {w : World} {K : Act → World → Prop} {Q : Exit → Act → World → Prop} {E : Prop} (hgd : o.guard = none)
    (f : FuncId) (fn : Func) (hfn : P.funcs[f]? = some fn) (hn1 : (fn.name == "runtime.NumGoroutine") = false) (hn2 : fn.body.isSome = true) (x0 x1 : Operand) (ts : Array TypeId) (ho : o.op = .call { callee := .value (.func f), args := #[x0, x1], argTypes := ts }) (v0 v1 : Value) (h0 : a.eval x0 = v0) (h1 : a.eval x1 = v1) (S : Value → World → Prop) (hc : Calls P f #[v0, v1] w fun e w' => ∃ v, e = .returned v ∧ S v w')
    (h : ∀ v w', S v w' → K (a.put o.dst v) w') : if Region.wanted o (yielded ops a.tmps) = true then Oper.wp P o a w K Q else E := by
  have hw : Region.wanted o (yielded ops a.tmps) = true := by simp [Region.wanted, hgd]
  rw [if_pos hw]
  unfold Oper.wp
  have hrun : (execOp a.eval o).run P w = .ok (.enter f #[v0, v1]) w := by
    unfold execOp
    have hn3 : fn.name ≠ "runtime.NumGoroutine" := by simpa using hn1
    obtain ⟨cd, hn4⟩ := Option.isSome_iff_exists.1 hn2
    have hf : a.eval (.func f) = .func (.func f) #[] #[] := rfl
    simp [ho, resolve, List.map_toArray, h0, h1, hf, Deferred.ofValue, invoke, Result.andThen, callFunc, hfn, hn3, hn4]
  rw [hrun, Oper.upon_enter]
  refine hc.mono fun e w' hh => ?_
  obtain ⟨v, rfl, hh2⟩ := hh
  exact h _ _ hh2
/-- A call by its contract, as a step of a region that draws. -/
theorem step_call3_E {P : Program} {ops : Array Oper} {o : Oper} {a : Act} {w : World} {K : Act → World → Prop} {Q : Exit → Act → World → Prop} {E : Prop} (hgd : o.guard = none)
    (f : FuncId) (fn : Func) (hfn : P.funcs[f]? = some fn) (hn1 : (fn.name == "runtime.NumGoroutine") = false) (hn2 : fn.body.isSome = true) (x0 x1 x2 : Operand) (ts : Array TypeId) (ho : o.op = .call { callee := .value (.func f), args := #[x0, x1, x2], argTypes := ts }) (v0 v1 v2 : Value) (h0 : a.eval x0 = v0) (h1 : a.eval x1 = v1) (h2 : a.eval x2 = v2) (S : Value → World → Prop) (hc : Calls P f #[v0, v1, v2] w fun e w' => ∃ v, e = .returned v ∧ S v w')
    (h : ∀ v w', S v w' → K (a.put o.dst v) w') : if Region.wanted o (yielded ops a.tmps) = true then Oper.wp P o a w K Q else E := by
  have hw : Region.wanted o (yielded ops a.tmps) = true := by simp [Region.wanted, hgd]
  rw [if_pos hw]
  unfold Oper.wp
  have hrun : (execOp a.eval o).run P w = .ok (.enter f #[v0, v1, v2]) w := by
    unfold execOp
    have hn3 : fn.name ≠ "runtime.NumGoroutine" := by simpa using hn1
    obtain ⟨cd, hn4⟩ := Option.isSome_iff_exists.1 hn2
    have hf : a.eval (.func f) = .func (.func f) #[] #[] := rfl
    simp [ho, resolve, List.map_toArray, h0, h1, h2, hf, Deferred.ofValue, invoke, Result.andThen, callFunc, hfn, hn3, hn4]
  rw [hrun, Oper.upon_enter]
  refine hc.mono fun e w' hh => ?_
  obtain ⟨v, rfl, hh2⟩ := hh
  exact h _ _ hh2
end Go.Proofs.YtnmpafcflfjhgaaGreat
