/- A region of the abstract machine in any order is the model's: the simulation. No condition. -/
import Derived.Test.YthnmiojncfhhmaaAm12
set_option linter.unusedVariables false
set_option linter.unusedSimpArgs false
set_option linter.unusedSectionVars false
namespace Go.Am
open Go.RowKit (Below)
theorem plainOp_congr {P : Program} {T T' : Nat → Value} {o : Oper} (hns : ∀ cs b, o.op ≠ .select cs b) (h : ∀ x ∈ o.op.operands, ev T x = ev T' x) : plainOp P T o = plainOp P T' o := by
  unfold plainOp
  rw [execOp_congr o hns h]
  congr 1
  apply propext
  simp only [List.all_eq_true]
  constructor
  · intro k x hx
    rw [← h x (by simpa using hx)]
    exact k x hx
  · intro k x hx
    rw [h x (by simpa using hx)]
    exact k x hx
theorem map_ev {T T' : Nat → Value} {l : List Operand} (h : ∀ x ∈ l, ev T x = ev T' x) : l.map (ev T) = l.map (ev T') := List.map_congr_left h
theorem pairs_ev {T T' : Nat → Value} {ps : Array (Nat × Operand)} (h : ∀ x ∈ ps.toList.map (·.2), ev T x = ev T' x) : (ps.toList.map fun (i, x) => (i, ev T x)) = (ps.toList.map fun (i, x) => (i, ev T' x)) :=
  List.map_congr_left fun p hp => by
    obtain ⟨i, x⟩ := p
    simp only [h x (List.mem_map.2 ⟨(i, x), hp, rfl⟩)]
theorem opA_congr {P : Program} {T T' : Nat → Value} {o : Oper} (h : ∀ x ∈ o.op.operands, ev T x = ev T' x) : opA P T o = opA P T' o := by
  have pl : (∀ cs b, o.op ≠ .select cs b) → plainOp P T o = plainOp P T' o := fun hns => plainOp_congr hns h
  unfold opA
  cases ho : o.op with
  | build t ps => rw [ho] at h; simp only []; rw [pairs_ev fun x hx => h x (by simpa [Op.operands] using hx)]
  | buildSlice t n ps => rw [ho] at h; simp only []; rw [pairs_ev fun x hx => h x (by simpa [Op.operands] using hx)]
  | makeFunc fn first captured =>
    rw [ho] at h
    cases fn <;> try rfl
    simp only []
    rw [map_ev (l := first.toList) fun x hx => h x (by simp [Op.operands]; exact .inl (by simpa using hx)), map_ev (l := captured.toList) fun x hx => h x (by simp [Op.operands]; exact .inr (by simpa using hx))]
  | call c =>
    have hp := pl fun cs b hh => by rw [ho] at hh; cases hh
    rw [ho] at h
    obtain ⟨callee, args, ats⟩ := c
    cases callee <;> try rfl
    simp only []
    rw [map_ev (l := args.toList) fun x hx => h x (by simp [Op.operands, Call.operands]; simpa using hx)]
    unfold builtinA lenA
    rw [hp]
  | makeMap t r =>
    rw [ho] at h
    cases r <;> simp_all [Op.operands]
  | slice t x lo hi mx =>
    have hp := pl fun cs b hh => by rw [ho] at hh; cases hh
    rw [ho] at h
    have hx := h x (by simp [Op.operands])
    simp only [hx, hp]
    cases lo <;> cases hi <;> cases mx <;> simp_all [Op.operands]
  | binOp op t x y t2 =>
    have hp := pl fun cs b hh => by rw [ho] at hh; cases hh
    rw [ho] at h
    simp only [binA, h x (by simp [Op.operands]), h y (by simp [Op.operands]), hp]
  | unOp op t x => exact pl fun cs b hh => by rw [ho] at hh; cases hh
  | convert t u x => exact pl fun cs b hh => by rw [ho] at hh; cases hh
  | index t x i =>
    have hp := pl fun cs b hh => by rw [ho] at hh; cases hh
    rw [ho] at h
    simp only [h x (by simp [Op.operands]), h i (by simp [Op.operands]), hp]
  | _ => first | rfl | (rw [ho] at h; simp_all [Op.operands])
theorem callee_congr {T T' : Nat → Value} {o : Oper} (h : ∀ x ∈ o.op.operands, ev T x = ev T' x) : callee? T o = callee? T' o := by
  unfold callee?
  cases ho : o.op with
  | call c =>
    rw [ho] at h
    obtain ⟨callee, args, ats⟩ := c
    cases callee with
    | value f =>
      simp only []
      rw [h f (by simp [Op.operands, Call.operands]), map_ev (l := args.toList) fun x hx => h x (by simp [Op.operands, Call.operands]; exact .inr (by simpa using hx))]
    | _ => rfl
  | _ => rfl
theorem ev_congr {T T' : Nat → Value} {ops : Array Oper} {o : Oper} (h : ∀ t ∈ o.looksAt ops, T t = T' t) : ∀ x ∈ o.op.operands, ev T x = ev T' x := fun x hx => by
  cases x with
  | tmp t => exact h t (List.mem_append_left _ (List.mem_filterMap.2 ⟨.tmp t, by simpa using hx, rfl⟩))
  | _ => rfl
theorem wanted_congr {T T' : Nat → Value} {ops : Array Oper} {o : Oper} (h : ∀ t ∈ o.looksAt ops, T t = T' t) : wantedA ops T o = wantedA ops T' o := by
  unfold wantedA
  cases hg : o.guard with
  | none => rfl
  | some g =>
    obtain ⟨j, want⟩ := g
    simp only []
    cases hd : (ops[j]?).bind (·.dst) with
    | none => rfl
    | some d =>
      simp only []
      rw [h d (List.mem_append_right _ (by simp [hg, hd]))]
/-- What happened at one operation of the canonical run. -/
inductive Kind (call : CallF) (P : Program) (ops : Array Oper) (B : Array Nat) (h : List Step) (k : Nat) (o : Oper) (T : Nat → Value) (s : St) (v : Value) (s' : St) : Foot → Prop
  | skip (hw : wantedA ops T o = false) (hv : v = undef) (hs : s' = s) : Kind call P ops B h k o T s v s' (.names [])
  | run (hw : wantedA ops T o = true) (hc : isCall o = false) (l : Log) (hr : (opA P T o).run s = some (v, s', l)) : Kind call P ops B h k o T s v s' (.names l)
  | loud (hw : wantedA ops T o = true) (hc : isCall o = true) (f : FuncId) (args : List Value) (hf : callee? T o = some (f, args)) (hr : call f args s = some (v, s')) : Kind call P ops B h k o T s v s' .loud
  | pure (hw : wantedA ops T o = true) (hc : isCall o = true) (f : FuncId) (args : List Value) (hf : callee? T o = some (f, args)) (s1 : St) (hr : call f args (hide (hid B k h) s) = some (v, s1)) (hs : s' = merge s s1) : Kind call P ops B h k o T s v s' .pure
theorem kind_of {call : CallF} {P : Program} {ops : Array Oper} {B : Array Nat} {h : List Step} {k : Nat} {o : Oper} {T : Nat → Value} {s s' : St} {st : Step} (hd : drawStep call P ops B h k o T s = some (st, s')) :
    st.i = k ∧ st.n = s.next ∧ st.n' = s'.next ∧ Kind call P ops B h k o T s st.v s' st.foot := by
  unfold drawStep at hd
  obtain ⟨⟨⟨v, ft⟩, s1⟩, h1, h2⟩ := Option.map_eq_some_iff.1 hd
  cases h2
  refine ⟨rfl, rfl, rfl, ?_⟩
  unfold drawVal at h1
  split at h1
  · rename_i hw
    split at h1
    · rename_i hc
      split at h1
      · obtain ⟨⟨f, args⟩, h3, h4⟩ := Option.bind_eq_some_iff.1 h1
        obtain ⟨⟨u, s2⟩, h5, h6⟩ := Option.map_eq_some_iff.1 h4
        cases h6
        exact .loud hw hc f args h3 h5
      · obtain ⟨⟨f, args⟩, h3, h4⟩ := Option.bind_eq_some_iff.1 h1
        obtain ⟨⟨u, s2⟩, h5, h6⟩ := Option.map_eq_some_iff.1 h4
        cases h6
        obtain ⟨⟨u', s3⟩, h7, h8⟩ := Option.map_eq_some_iff.1 h5
        cases h8
        exact .pure hw hc f args h3 s3 h7 rfl
    · rename_i hc
      obtain ⟨⟨u, s2, l⟩, h3, h4⟩ := Option.map_eq_some_iff.1 h1
      cases h4
      exact .run hw (by simpa using hc) l h3
  · rename_i hw
    cases h1
    exact .skip (by simpa using hw) rfl rfl
end Go.Am
