/- A step of a region of the abstract machine is the model's. No condition. -/
import Derived.Test.YthnmiojncfhhmaaAm10
set_option linter.unusedVariables false
set_option linter.unusedSimpArgs false
set_option linter.unusedSectionVars false
namespace Go.Am
open Go.RowKit (Below)
def Fresh (φ : Ren) (n n' : Nat) : Prop := ∀ b, n ≤ b → b < n' → φ b = none
theorem Fresh.sub {φ : Ren} {n n' m m' : Nat} (h : Fresh φ n n') (h1 : n ≤ m) (h2 : m' ≤ n') : Fresh φ m m' := fun b hb hb' => h b (by omega) (by omega)
theorem Fresh.after {φ φ' : Ren} {n m n' : Nat} (h : Fresh φ n n') (h1 : n ≤ m) (he : Ext φ φ' n m) : Fresh φ' m n' := fun b hb hb' =>
  Classical.byContradiction fun hne => by
    have h0 := h b (by omega) hb'
    have := he.2 b (by rw [h0]; exact hne)
    omega
theorem Ext.trans {φ φ1 φ2 : Ren} {n m n' : Nat} (h : Ext φ φ1 n m) (k : Ext φ1 φ2 m n') (h1 : n ≤ m) (h2 : m ≤ n') : Ext φ φ2 n n' :=
  ⟨fun b x hb => k.1 b x (h.1 b x hb), fun b hb => by
    by_cases hc : φ2 b = φ1 b
    · have := h.2 b (by rw [← hc]; exact hb)
      omega
    · have := k.2 b hc
      omega⟩
/-- What a call of the abstract machine says of the model's. -/
structure CallAt (P : Program) (base : Nat) (φ : Ren) (s s' : St) (f : FuncId) (args' : List Value) (w : World) (v : Value) : Prop where
  enters : ∃ fn, P.funcs[f]? = some fn ∧ (fn.name == "runtime.NumGoroutine") = false ∧ fn.body.isNone = false
  calls : Calls P f ⟨args'⟩ w fun e w' => ∃ φ' v', e = .returned v' ∧ Ext φ φ' s.next s'.next ∧ HRel base φ' s'.get w' ∧ Below base w w' ∧ Rel φ' v v'
def CallOK (P : Program) (call : CallF) : Prop := ∀ f args s v s', call f args s = some (v, s') → Clear s s'.next → ∀ base φ w args', HRel base φ s.get w → RelL φ args args' → Fresh φ s.next s'.next → CallAt P base φ s s' f args' w v
section
variable {P : Program} {base : Nat} {φ : Ren} {s s' : St} {w : World} {v : Value} {T : Nat → Value} {a : Act} {o : Oper} {ops : Array Oper} {call : CallF}
theorem wanted_eq (hT : TRel φ T a) : Region.wanted o (yielded ops a.tmps) = wantedA ops T o := by
  unfold Region.wanted wantedA
  cases o.guard with
  | none => rfl
  | some g =>
    obtain ⟨j, want⟩ := g
    simp only []
    unfold yielded
    cases (ops[j]?).bind (·.dst) with
    | none => rfl
    | some d =>
      simp only [Option.bind_some]
      have h := hT d
      rw [Array.getD_eq_getD_getElem?] at h
      revert h
      generalize T d = x
      cases a.tmps[d]? with
      | none =>
        intro h
        simp only [Option.getD_none] at h
        cases h
        rfl
      | some y =>
        intro h
        simp only [Option.getD_some] at h
        cases h <;> first | rfl | (simp only []; rename_i b; cases b <;> cases want <;> rfl)
theorem put_rel {φ' : Ren} (hT : TRel φ' T a) {dst : Option Tmp} {v' : Value} (hd : ∀ d, dst = some d → d < a.tmps.size) (hv : Rel φ' v v') : TRel φ' (putT T dst v) (a.put dst v') := by
  cases dst with
  | none => exact hT
  | some d =>
    intro t
    have hlt := hd d rfl
    show Rel φ' (upd T d v t) ((a.tmps.setIfInBounds d v').getD t undef)
    unfold upd
    by_cases h : t = d
    · subst h
      rw [if_pos rfl]
      simp [hlt, hv]
    · rw [if_neg h]
      have := hT t
      simp only [Array.getD_eq_getD_getElem?] at this ⊢
      rw [Array.getElem?_setIfInBounds_ne (Ne.symm h)]
      exact this
theorem put_size {dst : Option Tmp} {v' : Value} : (a.put dst v').tmps.size = a.tmps.size := by
  cases dst <;> simp [Act.put]
theorem put_defers {dst : Option Tmp} {v' : Value} : (a.put dst v').defers = a.defers := by
  cases dst <;> rfl
theorem TRel.mono {φ' : Ren} (hφ : ∀ b x, φ b = some x → φ' b = some x) (hT : TRel φ T a) : TRel φ' T a := fun t => (hT t).mono hφ
theorem callee_rel (hT : TRel φ T a) (hok : okOper o = true) {f : FuncId} {args : List Value} (h : callee? T o = some (f, args)) :
    ∃ args', RelL φ args args' ∧ ∀ (hen : ∃ fn, P.funcs[f]? = some fn ∧ (fn.name == "runtime.NumGoroutine") = false ∧ fn.body.isNone = false), (execOp a.eval o).run P w = .ok (.enter f ⟨args'⟩) w := by
  unfold callee? at h
  split at h
  case h_2 => cases h
  rename_i fo xs ats ho
  split at h
  case h_2 => cases h
  rename_i g first cap hev
  cases h
  have hall : ∀ x ∈ o.op.operands.toList, Rel φ (ev T x) (a.eval x) := fun x hx => ev_rel hT (all_op hok hx)
  rw [ho] at hall
  have hf : Rel φ (ev T fo) (a.eval fo) := hall fo (by simp [Op.operands, Call.operands])
  have hargs : RelL φ (xs.toList.map (ev T)) (xs.toList.map a.eval) := RelL.map fun x hx => hall x (by simp [Op.operands, Call.operands]; exact .inr (by simpa using hx))
  rw [hev] at hf
  generalize hu : a.eval fo = u at hf
  cases hf with
  | func _ h1 h2 =>
    rename_i f' c'
    refine ⟨f' ++ xs.toList.map a.eval ++ c', (h1.append hargs).append h2, fun hen => ?_⟩
    obtain ⟨fn, k1, k2, k3⟩ := hen
    unfold execOp
    rw [ho]
    show Sem.run P (do let d ← resolve a.eval { callee := .value fo, args := xs, argTypes := ats } o.type; invoke d.target d.args) w = _
    have e : (⟨f'⟩ : Array Value) ++ xs.map a.eval ++ ⟨c'⟩ = ⟨f' ++ xs.toList.map a.eval ++ c'⟩ := by
      apply Array.ext'
      simp
    simp only [resolve, hu, Deferred.ofValue, Sem.run_bind, Sem.run_pure, Result.andThen_ok, invoke, callFunc, run_program, k1, k2, k3, Bool.false_eq_true, if_false, e]
/-- One step: a region's operation. -/
theorem step_sound (hcall : CallOK P call) (hw : Clear s s'.next) (hT : TRel φ T a) (hok : okOper o = true) (hH : HRel base φ s.get w) (h : stepOp call P ops o T s = some (v, s')) (hfr : Fresh φ s.next s'.next)
    {K : Act → World → Prop} {Q : Exit → Act → World → Prop} (hK : ∀ φ' v' w', Ext φ φ' s.next s'.next → HRel base φ' s'.get w' → Below base w w' → Rel φ' v v' → K (a.put o.dst v') w') :
    if Region.wanted o (yielded ops a.tmps) = true then o.wp P a w K Q else K (a.put o.dst undef) w := by
  rw [wanted_eq hT]
  unfold stepOp at h
  split at h
  · rename_i hwn
    rw [if_pos hwn]
    split at h
    · obtain ⟨⟨f, args⟩, h1, h2⟩ := Option.bind_eq_some_iff.1 h
      obtain ⟨args', hr, hex⟩ := callee_rel (P := P) (w := w) hT hok h1
      obtain ⟨hen, hc⟩ := hcall f args s v s' h2 hw base φ w args' hH hr hfr
      unfold Oper.wp
      rw [hex hen, Oper.upon_enter]
      refine hc.mono fun e w' he => ?_
      obtain ⟨φ', v', rfl, k1, k2, k3, k4⟩ := he
      exact hK φ' v' w' k1 k2 k3 k4
    · obtain ⟨⟨u, s1, l⟩, h1, h2⟩ := Option.map_eq_some_iff.1 h
      cases h2
      obtain ⟨φ', v', w', k1, k2, k3, k4, k5⟩ := op_sound hT hok hH hfr h1
      unfold Oper.wp
      rcases k5 with k5 | ⟨k5, rfl⟩
      · rw [k5, Oper.upon_value]
        exact hK φ' v' w' k1 k2 k3 k4
      · rw [k5, Oper.upon_skip]
        exact hK φ' undef w' k1 k2 k3 k4
  · rename_i hwn
    rw [if_neg hwn]
    cases h
    exact hK φ undef w (Ext.refl _ _ _) hH (Below.refl _ _) (.tuple .nil)
/-- What a piece of code leaves. -/
def Post (base : Nat) (φ : Ren) (s : St) (a : Act) (w : World) (T' : Nat → Value) (s' : St) (a' : Act) (w' : World) : Prop :=
  ∃ φ', Ext φ φ' s.next s'.next ∧ HRel base φ' s'.get w' ∧ Below base w w' ∧ TRel φ' T' a' ∧ a'.tmps.size = a.tmps.size ∧ a'.defers = a.defers
theorem runOps_sound (hcall : CallOK P call) (hg : GoodCall call) {Q : Exit → Act → World → Prop} {T' : Nat → Value} : ∀ (os : List Oper) (hos : ∀ o ∈ os, okOper o = true ∧ ∀ d, o.dst = some d → d < a.tmps.size) (φ : Ren) (s : St) (T : Nat → Value) (b : Act) (w1 : World),
    Clear s s'.next → b.tmps.size = a.tmps.size → TRel φ T b → HRel base φ s.get w1 → runOps call P ops os T s = some (T', s') → Fresh φ s.next s'.next →
    (∀ b' w', Post base φ s b w1 T' s' b' w' → Q .normal b' w') → wpList P ops Q os b w1
  | [], hos, φ, s, T, b, w1, hwf, hsz, hT, hH, h, hfr, hQ => by
    cases h
    exact hQ b w1 ⟨φ, Ext.refl _ _ _, hH, Below.refl _ _, hT, rfl, rfl⟩
  | o :: os, hos, φ, s, T, b, w1, hwf, hsz, hT, hH, h, hfr, hQ => by
    obtain ⟨⟨v, s1⟩, h1, h2⟩ := Option.bind_eq_some_iff.1 h
    simp only [] at h2
    have g1 := good_stepOp (P := P) (ops := ops) hg o T
    have k1 := g1.next _ _ _ h1
    have k2 := (good_runOps (P := P) (ops := ops) hg os (putT T o.dst v)).next _ _ _ h2
    have hos1 := hos o (List.mem_cons_self ..)
    have hst := step_sound (Q := Q) (K := wpList P ops Q os) hcall (fun b hb hb' => hwf b hb (by omega)) hT hos1.1 hH h1 (hfr.sub (Nat.le_refl _) k2.1) fun φ' v' w' e1 e2 e3 e4 => by
      refine runOps_sound hcall hg os (fun o ho => hos o (List.mem_cons_of_mem _ ho)) φ' s1 (putT T o.dst v) (b.put o.dst v') w' (fun b hb hb' => g1.old _ _ _ h1 b (hwf b (by omega) hb') (by omega)) (put_size.trans hsz) (put_rel (TRel.mono e1.1 hT) (fun d hd => by rw [hsz]; exact hos1.2 d hd) e4) e2 h2 (hfr.after k1.1 e1) fun b' w'' hp => ?_
      obtain ⟨φ'', q1, q2, q3, q4, q5, q6⟩ := hp
      exact hQ b' w'' ⟨φ'', e1.trans q1 k1.1 k2.1, q2, e3.trans q3, q4, q5.trans put_size, q6.trans put_defers⟩
    unfold wpList
    split
    · rename_i hw'
      rw [if_pos hw'] at hst
      exact .inl hst
    · rename_i hw'
      rw [if_neg hw'] at hst
      exact hst
end
end Go.Am
