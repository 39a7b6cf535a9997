/- One operation of the abstract machine is the model's. No condition. -/
import Derived.Test.YthnmiojncfhhmaaAm7b
set_option linter.unusedVariables false
set_option linter.unusedSimpArgs false
set_option linter.unusedSectionVars false
namespace Go.Am
open Go.RowKit (Below)
def okOperand : Operand → Bool
  | .tmp _ | .func _ => true
  | .const v => plain v
  | .global _ => false
def okOper (o : Oper) : Bool := o.op.operands.toList.all okOperand
def TRel (φ : Ren) (T : Nat → Value) (a : Act) : Prop := ∀ t, Rel φ (T t) (a.tmps.getD t undef)
theorem ev_rel {φ : Ren} {T : Nat → Value} {a : Act} (hT : TRel φ T a) {x : Operand} (h : okOperand x = true) : Rel φ (ev T x) (a.eval x) := by
  cases x with
  | tmp t => exact hT t
  | const v => exact plain_rel h
  | global g => cases h
  | func f => exact .func _ .nil .nil
theorem nilEq_sound {P : Program} {φ : Ren} {w : World} {t : TypeId} {x y x' y' : Value} {b : Bool} (h : nilEq P t x y = some b) (hx : Rel φ x x') (hy : Rel φ y y') : (Op.equal t x' y').run P w = .ok b w := by
  unfold Op.equal
  rw [show Op.maxDepth = 9999 + 1 from rfl]
  generalize 9999 = n
  unfold nilEq at h
  split at h
  all_goals first
    | (cases h; done)
    | (rename_i hu
       cases h
       cases hx <;> cases hy <;> first | (simp [Op.equalIn, run_underlying hu]; done) | (exfalso; simp_all; done))
theorem nil_run {P : Program} {φ : Ren} {w : World} {t : TypeId} {x y x' y' : Value} {b : Bool} {c d : Operand} (h : nilEq P t x y = some b) (hx : Rel φ x x') (hy : Rel φ y y') :
    (eqGuard .eql t c d x' y').run P w = .ok () w ∧ (binOp .eql t x' y').run P w = .ok (.bool b) w ∧ (eqGuard .neq t c d x' y').run P w = .ok () w ∧ (binOp .neq t x' y').run P w = .ok (.bool !b) w := by
  have hq := nilEq_sound (w := w) h hx hy
  unfold nilEq at h
  split at h
  all_goals first
    | (cases h; done)
    | (cases hx <;> cases hy <;> refine ⟨rfl, ?_, rfl, ?_⟩ <;> simp [binOp, hq])
section
variable {P : Program} {base : Nat} {φ : Ren} {s s' : St} {w : World} {v : Value} {l : Log} {T : Nat → Value} {a : Act} {o : Oper}
def OutOp (P : Program) (base : Nat) (φ : Ren) (s s' : St) (w : World) (v : Value) (sem : Sem Next) : Prop :=
  ∃ φ' v' w', Ext φ φ' s.next s'.next ∧ HRel base φ' s'.get w' ∧ Below base w w' ∧ Rel φ' v v' ∧ (sem.run P w = .ok (.value v') w' ∨ (sem.run P w = .ok .skip w' ∧ v' = undef))
theorem Out.op {sem : Sem Value} (h : Out P base φ s s' w v sem) : OutOp P base φ s s' w v (do pure (.value (← sem))) := by
  obtain ⟨φ', v', w', h1, h2, h3, h4, h5⟩ := h
  exact ⟨φ', v', w', h1, h2, h3, h4, .inl (by simp only [Sem.run_bind, h5, Result.andThen_ok, Sem.run_pure])⟩
theorem all_op (hok : okOper o = true) {x : Operand} (hx : x ∈ o.op.operands.toList) : okOperand x = true := List.all_eq_true.1 hok x hx
theorem plain_sound (hT : TRel φ T a) (hok : okOper o = true) (hns : ∀ cs b, o.op ≠ .select cs b) (hH : HRel base φ s.get w) (h : (plainOp P T o).run s = some (v, s', l)) : OutOp P base φ s s' w v (execOp a.eval o) := by
  unfold plainOp at h
  split at h
  case isFalse => cases h
  rename_i hp
  have he : execOp a.eval o = execOp (ev T) o := execOp_congr o hns fun x hx => by
    have hx' : x ∈ o.op.operands.toList := by simpa using hx
    exact rel_plain (ev_rel hT (all_op hok hx')) (List.all_eq_true.1 hp x hx')
  split at h
  case h_2 => cases h
  rename_i u hr
  split at h
  case isFalse => cases h
  rename_i hpu
  obtain ⟨rfl, rfl⟩ := M.ret_some h
  rw [he]
  exact ⟨φ, u, w, Ext.refl _ _ _, hH, Below.refl _ _, plain_rel hpu, .inl (pureRun_run w hr)⟩
theorem map_pairs {ps : Array (Nat × Operand)} {f : Operand → Value} : (ps.map fun (i, x) => (i, f x)) = (ps.toList.map fun p => (p.1, f p.2)).toArray := by
  apply Array.ext'
  simp
theorem bin_sound {op : BinOp} {t t2 : TypeId} {x y : Operand} (hT : TRel φ T a) (ho : o.op = .binOp op t x y t2) (hok : okOper o = true) (hH : HRel base φ s.get w) (h : (binA P T o op t (ev T x) (ev T y)).run s = some (v, s', l)) :
    OutOp P base φ s s' w v (execOp a.eval o) := by
  have hns : ∀ cs b, o.op ≠ .select cs b := fun cs b hh => by rw [ho] at hh; cases hh
  have hx : Rel φ (ev T x) (a.eval x) := ev_rel hT (all_op hok (by rw [ho]; simp [Op.operands]))
  have hy : Rel φ (ev T y) (a.eval y) := ev_rel hT (all_op hok (by rw [ho]; simp [Op.operands]))
  unfold binA at h
  split at h
  · rename_i b hb
    obtain ⟨rfl, rfl⟩ := M.ret_some h
    obtain ⟨k1, k2, _⟩ := nil_run (w := w) (c := x) (d := y) hb hx hy
    refine ⟨φ, .bool b, w, Ext.refl _ _ _, hH, Below.refl _ _, .bool _, .inl ?_⟩
    unfold execOp
    rw [ho]
    simp only [Sem.run_bind, k1, Result.andThen_ok, k2, Sem.run_pure]
  · rename_i b hb
    obtain ⟨rfl, rfl⟩ := M.ret_some h
    obtain ⟨_, _, k1, k3⟩ := nil_run (w := w) (c := x) (d := y) hb hx hy
    refine ⟨φ, .bool !b, w, Ext.refl _ _ _, hH, Below.refl _ _, .bool _, .inl ?_⟩
    unfold execOp
    rw [ho]
    simp only [Sem.run_bind, k1, Result.andThen_ok, k3, Sem.run_pure]
  · exact plain_sound hT hok hns hH h
theorem op_sound (hT : TRel φ T a) (hok : okOper o = true) (hH : HRel base φ s.get w) (hfr : ∀ b, s.next ≤ b → b < s'.next → φ b = none) (h : (opA P T o).run s = some (v, s', l)) :
    OutOp P base φ s s' w v (execOp a.eval o) := by
  have he : ∀ x, x ∈ o.op.operands.toList → Rel φ (ev T x) (a.eval x) := fun x hx => ev_rel hT (all_op hok hx)
  have pl : (∀ cs b, o.op ≠ .select cs b) → (plainOp P T o).run s = some (v, s', l) → OutOp P base φ s s' w v (execOp a.eval o) := fun hns h => plain_sound hT hok hns hH h
  have bn : ∀ op t x y t2, o.op = .binOp op t x y t2 → (binA P T o op t (ev T x) (ev T y)).run s = some (v, s', l) → OutOp P base φ s s' w v (execOp a.eval o) := fun op t x y t2 ho h => bin_sound hT ho hok hH h
  clear hok
  unfold opA at h
  cases ho : o.op with
  | move x =>
    rw [ho] at he h
    obtain ⟨rfl, rfl⟩ := M.ret_some h
    refine ⟨φ, a.eval x, w, Ext.refl _ _ _, hH, Below.refl _ _, he x (by simp [Op.operands]), .inl ?_⟩
    unfold execOp
    rw [ho]
    rfl
  | assign x =>
    rw [ho] at he h
    obtain ⟨rfl, rfl⟩ := M.ret_some h
    refine ⟨φ, a.eval x, w, Ext.refl _ _ _, hH, Below.refl _ _, he x (by simp [Op.operands]), .inl ?_⟩
    unfold execOp
    rw [ho]
    rfl
  | pick c x y =>
    rw [ho] at he h
    have hc := he c (by simp [Op.operands])
    simp only [] at h
    split at h
    · rename_i hb
      obtain ⟨rfl, rfl⟩ := M.ret_some h
      refine ⟨φ, a.eval x, w, Ext.refl _ _ _, hH, Below.refl _ _, he x (by simp [Op.operands]), .inl ?_⟩
      unfold execOp
      rw [ho]
      show Sem.run P (do let b ← asBool (a.eval c); pure (Next.value (if b = true then a.eval x else a.eval y))) w = _
      rw [pick_sound hb hc]
      rfl
    · rename_i hb
      obtain ⟨rfl, rfl⟩ := M.ret_some h
      refine ⟨φ, a.eval y, w, Ext.refl _ _ _, hH, Below.refl _ _, he y (by simp [Op.operands]), .inl ?_⟩
      unfold execOp
      rw [ho]
      show Sem.run P (do let b ← asBool (a.eval c); pure (Next.value (if b = true then a.eval x else a.eval y))) w = _
      rw [pick_sound hb hc]
      rfl
    · cases h
  | alloc e =>
    rw [ho] at h
    simp only [] at h
    split at h
    · rename_i z hz
      have := (alloc_sound (P := P) hH hfr hz h).op
      unfold execOp
      rw [ho]
      exact this
    · cases h
  | box e x =>
    rw [ho] at he h
    have := (box_sound (P := P) hH hfr (he x (by simp [Op.operands])) h).op
    unfold execOp
    rw [ho]
    exact this
  | build t ps =>
    rw [ho] at he h
    have := (build_sound (P := P) (f := ev T) (g := a.eval) (fun p hp => he p.2 (by simp only [Op.operands]; exact List.mem_map.2 ⟨p, hp, rfl⟩)) hH h).op
    unfold execOp
    rw [ho]
    rw [← map_pairs] at this
    exact this
  | buildSlice t n ps =>
    rw [ho] at he h
    have := (buildSlice_sound (P := P) (f := ev T) (g := a.eval) (fun p hp => he p.2 (by simp only [Op.operands]; exact List.mem_map.2 ⟨p, hp, rfl⟩)) hH hfr h).op
    unfold execOp
    rw [ho]
    rw [← map_pairs] at this
    exact this
  | load t x =>
    rw [ho] at he h
    have := (load_sound (P := P) hH (he x (by simp [Op.operands])) h).op
    unfold execOp
    rw [ho]
    exact this
  | store t x y =>
    rw [ho] at he h
    obtain ⟨u, s1, l1, l2, h1, h2⟩ := M.bind_some h
    obtain ⟨rfl, rfl⟩ := M.ret_some h2
    obtain ⟨w', k1, k2, k3, k4⟩ := store_sound (P := P) hH (he x (by simp [Op.operands])) (he y (by simp [Op.operands])) h1
    refine ⟨φ, undef, w', Ext.refl _ _ _, k2, k3, .tuple .nil, .inr ⟨?_, rfl⟩⟩
    unfold execOp
    rw [ho]
    simp only [Sem.run_bind, k4, Result.andThen_ok, Sem.run_pure]
  | nilCheck x =>
    rw [ho] at he h
    have hx := he x (by simp [Op.operands])
    simp only [] at h
    revert hx
    generalize hv : a.eval x = ux
    intro hx
    split at h
    · rename_i ad hev
      obtain ⟨rfl, rfl⟩ := M.ret_some h
      rw [hev] at hx
      cases hx with
      | ptr hφ =>
        refine ⟨φ, _, w, Ext.refl _ _ _, hH, Below.refl _ _, .ptr hφ, .inl ?_⟩
        unfold execOp
        rw [ho]
        simp only [hv]
        rfl
    · rename_i f fa fb hev
      obtain ⟨rfl, rfl⟩ := M.ret_some h
      rw [hev] at hx
      cases hx with
      | func _ h1 h2 =>
        refine ⟨φ, _, w, Ext.refl _ _ _, hH, Below.refl _ _, .func _ h1 h2, .inl ?_⟩
        unfold execOp
        rw [ho]
        simp only [hv]
        rfl
    · cases h
  | binOp op t x y t2 =>
    rw [ho] at h
    exact bn op t x y t2 ho h
  | unOp op t x =>
    rw [ho] at h
    exact pl (fun cs b hh => by rw [ho] at hh; cases hh) h
  | convert t u x =>
    rw [ho] at h
    exact pl (fun cs b hh => by rw [ho] at hh; cases hh) h
  | makeFunc fn first captured =>
    rw [ho] at he h
    cases fn with
    | func f =>
      obtain ⟨rfl, rfl⟩ := M.ret_some h
      refine ⟨φ, .func (.func f) ⟨first.toList.map a.eval⟩ ⟨captured.toList.map a.eval⟩, w, Ext.refl _ _ _, hH, Below.refl _ _, .func _ (RelL.map fun x hx => he x (by simp [Op.operands]; exact .inl (by simpa using hx))) (RelL.map fun x hx => he x (by simp [Op.operands]; exact .inr (by simpa using hx))), .inl ?_⟩
      unfold execOp
      rw [ho]
      simp only [Instr.makeFunc, Sem.run_bind, Sem.run_pure, Result.andThen_ok]
      congr 3 <;> (apply Array.ext'; simp)
    | _ => cases h
  | makeSlice t x y =>
    rw [ho] at he h
    have := (make_sound (P := P) hH hfr (he x (by simp [Op.operands])) (he y (by simp [Op.operands])) h).op
    unfold execOp
    rw [ho]
    exact this
  | makeMap t r =>
    rw [ho] at h
    cases r with
    | some x => cases h
    | none =>
      have := (makeMap_sound (P := P) (t := t) hH hfr h).op
      unfold execOp
      rw [ho]
      exact this
  | lookup t m k ok =>
    rw [ho] at he h
    have := (lookup_sound (P := P) hH (he m (by simp [Op.operands])) (he k (by simp [Op.operands])) h).op
    unfold execOp
    rw [ho]
    exact this
  | mapUpdate t m k x =>
    rw [ho] at he h
    obtain ⟨u, s1, l1, l2, h1, h2⟩ := M.bind_some h
    obtain ⟨rfl, rfl⟩ := M.ret_some h2
    obtain ⟨w', k1, k2, k3, k4⟩ := update_sound (P := P) hH (he m (by simp [Op.operands])) (he k (by simp [Op.operands])) (he x (by simp [Op.operands])) h1
    refine ⟨φ, undef, w', k1 ▸ Ext.refl _ _ _, k2, k3, .tuple .nil, .inr ⟨?_, rfl⟩⟩
    unfold execOp
    rw [ho]
    simp only [Sem.run_bind, k4, Result.andThen_ok, Sem.run_pure]
  | insert t m k x =>
    rw [ho] at he h
    obtain ⟨u, s1, l1, l2, h1, h2⟩ := M.bind_some h
    obtain ⟨rfl, rfl⟩ := M.ret_some h2
    obtain ⟨w', k1, k2, k3, k4⟩ := update_sound (P := P) hH (he m (by simp [Op.operands])) (he k (by simp [Op.operands])) (he x (by simp [Op.operands])) h1
    refine ⟨φ, undef, w', k1 ▸ Ext.refl _ _ _, k2, k3, .tuple .nil, .inr ⟨?_, rfl⟩⟩
    unfold execOp
    rw [ho]
    simp only [Sem.run_bind, k4, Result.andThen_ok, Sem.run_pure]
  | slice t x lo hi mx =>
    rw [ho] at he h
    simp only [] at h
    split at h
    · exact pl (fun cs b hh => by rw [ho] at hh; cases hh) h
    · have h1 : ORel φ (lo.map (ev T)) (lo.map a.eval) := by
        cases lo with
        | none => trivial
        | some x => exact he x (by simp [Op.operands])
      have h2 : ORel φ (hi.map (ev T)) (hi.map a.eval) := by
        cases hi with
        | none => trivial
        | some x => exact he x (by simp [Op.operands])
      have h3 : ORel φ (mx.map (ev T)) (mx.map a.eval) := by
        cases mx with
        | none => trivial
        | some x => exact he x (by simp [Op.operands])
      have := (slice_sound (P := P) hH (he x (by simp [Op.operands])) hfr h1 h2 h3 h).op
      unfold execOp
      rw [ho]
      exact this
  | fieldAddr t x f =>
    rw [ho] at he h
    have := (fieldAddr_sound (P := P) hH (he x (by simp [Op.operands])) h).op
    unfold execOp
    rw [ho]
    exact this
  | field t x f =>
    rw [ho] at he h
    have := (field_sound (P := P) hH (he x (by simp [Op.operands])) h).op
    unfold execOp
    rw [ho]
    exact this
  | indexAddr t x i =>
    rw [ho] at he h
    have := (indexAddr_sound (P := P) hH (he x (by simp [Op.operands])) (he i (by simp [Op.operands])) h).op
    unfold execOp
    rw [ho]
    exact this
  | index t x i =>
    rw [ho] at he h
    simp only [] at h
    split at h
    · exact pl (fun cs b hh => by rw [ho] at hh; cases hh) h
    · have := (index_sound (P := P) hH (he x (by simp [Op.operands])) (he i (by simp [Op.operands])) h).op
      unfold execOp
      rw [ho]
      exact this
  | extract x i =>
    rw [ho] at he h
    have hx := he x (by simp [Op.operands])
    simp only [] at h
    revert hx
    generalize hv : a.eval x = ux
    intro hx
    split at h
    · rename_i ls hev
      obtain ⟨hi, rfl⟩ := M.opt_some h
      rw [hev] at hx
      cases hx with
      | tuple hr =>
        rename_i l'
        obtain ⟨v', k1, k2⟩ := hr.get i v hi
        refine ⟨φ, v', w, Ext.refl _ _ _, hH, Below.refl _ _, k2, .inl ?_⟩
        unfold execOp
        rw [ho]
        have k1' : (⟨l'⟩ : Array Value)[i]? = some v' := by simpa using k1
        simp only [hv, Instr.extract, k1', Sem.run_bind, Sem.run_pure, Result.andThen_ok]
    · cases h
  | call c =>
    rw [ho] at he h
    obtain ⟨callee, args, ats⟩ := c
    cases callee with
    | builtin b =>
      have hargs : ∀ x ∈ args.toList, Rel φ (ev T x) (a.eval x) := fun x hx => he x (by simp [Op.operands, Call.operands]; simpa using hx)
      have hex : execOp a.eval o = builtin b ats o.type (args.map fun | .const _ => true | _ => false) (args.map a.eval) := by
        unfold execOp
        rw [ho]
        rfl
      simp only [] at h
      unfold builtinA at h
      split at h
      · rename_i x y t u hxy hats
        have hats' : ats = #[t, u] := by apply Array.ext'; rw [hats]
        subst hats'
        obtain ⟨ol⟩ := args
        match ol, hxy, hargs, hex with
        | [ox, oy], hxy, hargs, hex =>
          simp only [List.map_cons, List.map_nil, List.cons.injEq, and_true] at hxy
          obtain ⟨rfl, rfl⟩ := hxy
          have := (append_sound (P := P) (ty := o.type) hH hfr (hargs ox (by simp)) (hargs oy (by simp)) h).op
          have hm : Array.map a.eval ⟨[ox, oy]⟩ = #[a.eval ox, a.eval oy] := by simp
          rw [hex, hm]
          exact this
      · rename_i x y t u hxy hats
        have hats' : ats = #[t, u] := by apply Array.ext'; rw [hats]
        subst hats'
        obtain ⟨ol⟩ := args
        match ol, hxy, hargs, hex with
        | [ox, oy], hxy, hargs, hex =>
          simp only [List.map_cons, List.map_nil, List.cons.injEq, and_true] at hxy
          obtain ⟨rfl, rfl⟩ := hxy
          have := (copy_sound (P := P) (u := u) (ty := o.type) hH (hargs ox (by simp)) (hargs oy (by simp)) h).op
          have hm : Array.map a.eval ⟨[ox, oy]⟩ = #[a.eval ox, a.eval oy] := by simp
          rw [hex, hm]
          exact this
      · rename_i x t hxy hats
        have hats' : ats = #[t] := by apply Array.ext'; rw [hats]
        subst hats'
        obtain ⟨ol⟩ := args
        match ol, hxy, hargs, hex with
        | [ox], hxy, hargs, hex =>
          simp only [List.map_cons, List.map_nil, List.cons.injEq, and_true] at hxy
          subst hxy
          unfold lenA at h
          split at h
          · rename_i e ad n c hu hev
            obtain ⟨rfl, rfl⟩ := M.ret_some h
            have hx := hargs ox (by simp)
            rw [hev] at hx
            refine ⟨φ, .int .i64 n, w, Ext.refl _ _ _, hH, Below.refl _ _, .int _ _, .inl ?_⟩
            have hm : Array.map a.eval ⟨[ox]⟩ = #[a.eval ox] := by simp
            rw [hex, hm]
            generalize a.eval ox = ux at hx
            show (do pure (.value (← Builtin.len_ #[t] o.type #[ux])) : Sem Next).run P w = _
            cases hx <;> simp [Builtin.len_, run_underlying hu, goInt]
          · rename_i kt et b hu hev
            obtain ⟨x0, l1, h1, h2⟩ := M.get_some h
            have hx := hargs ox (by simp)
            rw [hev] at hx
            have hm : Array.map a.eval ⟨[ox]⟩ = #[a.eval ox] := by simp
            rw [hex, hm]
            generalize a.eval ox = ux at hx
            cases hx with
            | map hφ =>
              split at h2
              · obtain ⟨rfl, rfl⟩ := M.ret_some h2
                obtain ⟨_, _, _, hq, _, _, a1, ha, hel⟩ := hH.live _ _ h1
                rw [hφ] at hq
                cases hq
                refine ⟨φ, _, w, Ext.refl _ _ _, hH, Below.refl _ _, .int _ _, .inl ?_⟩
                show (do pure (.value (← Builtin.len_ #[t] o.type #[_])) : Sem Next).run P w = _
                simp [Builtin.len_, run_underlying hu, goInt, run_getMap ha, hel.length]
              · cases h2
          · exact pl (fun cs b hh => by rw [ho] at hh; cases hh) h
      · rename_i x t hxy hats
        have hats' : ats = #[t] := by apply Array.ext'; rw [hats]
        subst hats'
        obtain ⟨ol⟩ := args
        match ol, hxy, hargs, hex with
        | [ox], hxy, hargs, hex =>
          simp only [List.map_cons, List.map_nil, List.cons.injEq, and_true] at hxy
          subst hxy
          have := (clear_sound (P := P) (ty := o.type) hH (hargs ox (by simp)) h).op
          have hm : Array.map a.eval ⟨[ox]⟩ = #[a.eval ox] := by simp
          rw [hex, hm]
          exact this
      · exact pl (fun cs b hh => by rw [ho] at hh; cases hh) h
      · exact pl (fun cs b hh => by rw [ho] at hh; cases hh) h
      · cases h
    | value f => cases h
    | invoke r m => cases h
  | _ => rw [ho] at h; cases h
end
end Go.Am
