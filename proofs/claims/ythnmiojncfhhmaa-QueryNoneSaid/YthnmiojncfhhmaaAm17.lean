/- What the abstract machine computes, the model computes. No condition but that the functions were looked at. -/
import Derived.Test.YthnmiojncfhhmaaAm16
import Derived.LoopN
import Derived.Scope
set_option linter.unusedVariables false
set_option linter.unusedSimpArgs false
set_option linter.unusedSectionVars false
namespace Go.Am
open Go.RowKit (Below)
def okDst (n : Nat) (o : Oper) : Bool :=
  match o.dst with
  | some d => decide (d < n)
  | none => true
def okCode (n : Nat) : Code → Bool
  | .skip | .ret | .exit _ | .label _ => true
  | .region _ ops draw => (ops.toList.all fun o => okOper o && okDst n o) && (!draw || okDraw ops)
  | .seq a b => okCode n a && okCode n b
  | .cond c a b => okOperand c && okCode n a && okCode n b
  | .block _ c | .scope c => okCode n c
  | .loop c => okCode n c
  | _ => false
def okFn (P : Program) (f : FuncId) : Bool :=
  match P.funcs[f]? with
  | some fn => match fn.body with
    | some c => !(fn.name == "runtime.NumGoroutine") && okCode fn.ntmps c
    | none => false
  | none => false
def Ex.exit' : Ex → Exit
  | .normal => .normal
  | .ret => .ret
  | .exit id => .exit id
def ExecPost (base : Nat) (φ : Ren) (s : St) (a : Act) (w : World) (ex : Ex) (T' : Nat → Value) (s' : St) : Exit → Act → World → Prop :=
  fun e b w' => e = ex.exit' ∧ Post base φ s a w T' s' b w'
theorem boolOf_rel {x x' : Value} {b : Bool} {φ : Ren} (h : boolOf? x = some b) (hx : Rel φ x x') : x' = .bool b := pick_sound h hx
theorem oks {n : Nat} {ops : Array Oper} {a : Act} (h : (ops.toList.all fun o => okOper o && okDst n o) = true) (hn : n ≤ a.tmps.size) : ∀ o ∈ ops.toList, okOper o = true ∧ ∀ d, o.dst = some d → d < a.tmps.size := fun o ho => by
  have := List.all_eq_true.1 h o ho
  simp only [Bool.and_eq_true] at this
  refine ⟨this.1, fun d hd => ?_⟩
  have h2 := this.2
  unfold okDst at h2
  rw [hd] at h2
  simp only [decide_eq_true_eq] at h2
  exact Nat.lt_of_lt_of_le h2 hn
theorem Post.trans {base : Nat} {φ φ1 : Ren} {s s1 s2 : St} {a a1 a2 : Act} {w w1 w2 : World} {T2 : Nat → Value} (h1 : s.next ≤ s1.next) (h2 : s1.next ≤ s2.next) (e : Ext φ φ1 s.next s1.next) (hb : Below base w w1) (hsz : a1.tmps.size = a.tmps.size) (hd : a1.defers = a.defers)
    (h : Post base φ1 s1 a1 w1 T2 s2 a2 w2) : Post base φ s a w T2 s2 a2 w2 := by
  obtain ⟨φ2, q1, q2, q3, q4, q5, q6⟩ := h
  exact ⟨φ2, e.trans q1 h1 h2, q2, hb.trans q3, q4, q5.trans hsz, q6.trans hd⟩
theorem loadA_state {P : Program} {t : TypeId} {p v : Value} {s s' : St} {l : Log} (h : (loadA P t p).run s = some (v, s', l)) : s = s' := by
  unfold loadA at h
  obtain ⟨⟨b, o⟩, s1, l1, l2, h1, h2⟩ := M.bind_some h
  obtain ⟨_, rfl⟩ := asPtr_some h1
  simp only [] at h2
  split at h2
  · obtain ⟨cs, s2, l3, l4, h3, h4⟩ := M.bind_some h2
    obtain ⟨rfl, _⟩ := cellsAt_some h3
    exact (M.ret_some h4).2
  · obtain ⟨cs, s2, l3, l4, h3, h4⟩ := M.bind_some h2
    obtain ⟨rfl, _⟩ := cellsAt_some h3
    exact (M.opt_some h4).2
  · cases h2
theorem resList_same {P : Program} {T : Nat → Value} : ∀ {rs : List ResultVar} {s s' : St} {vs : List Value} {l : Log}, (resList P T rs).run s = some (vs, s', l) → s = s'
  | [], s, s', vs, l, h => (M.ret_some h).2
  | .tmp t :: rs, s, s', vs, l, h => by
    obtain ⟨ls, s1, l1, l2, h1, h2⟩ := M.bind_some h
    exact (resList_same h1).trans (M.ret_some h2).2
  | .cell b t :: rs, s, s', vs, l, h => by
    obtain ⟨v, s1, l1, l2, h1, h2⟩ := M.bind_some h
    obtain ⟨ls, s2, l3, l4, h3, h4⟩ := M.bind_some h2
    exact (loadA_state h1).trans ((resList_same h3).trans (M.ret_some h4).2)
theorem mapM_res {P : Program} {base : Nat} {φ : Ren} {w : World} {a : Act} {T : Nat → Value} (hT : TRel φ T a) : ∀ {rs : List ResultVar} {s s' : St} {vs : List Value} {l : Log}, HRel base φ s.get w → (resList P T rs).run s = some (vs, s', l) →
    s = s' ∧ ∃ vs' : List Value, (rs.mapM fun r => match r with
      | .tmp t => pure (a.tmps.getD t undef)
      | .cell b t => do loadVar t (← asAddr (a.tmps.getD b undef)) : Sem (List Value)).run P w = .ok vs' w ∧ RelL φ vs vs'
  | [], s, s', vs, l, hH, h => by
    obtain ⟨rfl, rfl⟩ := M.ret_some h
    exact ⟨rfl, [], rfl, .nil⟩
  | .tmp t :: rs, s, s', vs, l, hH, h => by
    obtain ⟨ls, s1, l1, l2, h1, h2⟩ := M.bind_some h
    obtain ⟨rfl, vs', h3, h4⟩ := mapM_res hT hH h1
    obtain ⟨rfl, rfl⟩ := M.ret_some h2
    refine ⟨rfl, a.tmps.getD t undef :: vs', ?_, .cons (hT t) h4⟩
    rw [List.mapM_cons]
    simp only [Sem.run_bind, Sem.run_pure, Result.andThen_ok, h3]
  | .cell b t :: rs, s, s', vs, l, hH, h => by
    obtain ⟨v, s1, l1, l2, h1, h2⟩ := M.bind_some h
    obtain ⟨ls, s2, l3, l4, h3, h4⟩ := M.bind_some h2
    obtain ⟨rfl, v', h5, h6⟩ := load_same (P := P) hH (hT b) h1
    obtain ⟨rfl, vs', h7, h8⟩ := mapM_res hT hH h3
    obtain ⟨rfl, rfl⟩ := M.ret_some h4
    refine ⟨rfl, v' :: vs', ?_, .cons h5 h8⟩
    have h9 : (do loadVar t (← asAddr (a.tmps.getD b undef)) : Sem Value).run P w = .ok v' w := by
      have hb := hT b
      revert h6 hb
      generalize a.tmps.getD b undef = q
      intro h6 hb
      unfold loadA at h1
      obtain ⟨⟨c, o⟩, s3, l5, l6, h10, _⟩ := M.bind_some h1
      obtain ⟨h11, _⟩ := asPtr_some h10
      rw [h11] at hb
      cases hb with
      | ptr hφ => exact h6
    rw [List.mapM_cons]
    rw [Sem.run_bind, h9]
    simp only [Sem.run_bind, Sem.run_pure, Result.andThen_ok, h7]
theorem oneOf_rel {φ : Ren} {vs vs' : List Value} (h : RelL φ vs vs') : Rel φ (oneOf vs) (if h : (⟨vs'⟩ : Array Value).size = 1 then (⟨vs'⟩ : Array Value)[0] else .tuple ⟨vs'⟩) := by
  match vs, vs', h with
  | [], [], _ => exact .tuple .nil
  | [v], [v'], .cons hv .nil => exact hv
  | v :: u :: l, v' :: u' :: l', h =>
    have hlen : ¬ (⟨v' :: u' :: l'⟩ : Array Value).size = 1 := by simp
    rw [dif_neg hlen]
    exact .tuple h
theorem res_run {P : Program} {base : Nat} {fn : Func} {a : Act} {φ : Ren} {T : Nat → Value} {v : Value} {w : World} {s s' : St} {l : Log} (hT : TRel φ T a) (hH : HRel base φ s.get w) (h : (resM P fn.results.toList T).run s = some (v, s', l)) : s = s' ∧ ∃ v', (results fn a.tmps).run P w = .ok v' w ∧ Rel φ v v' := by
  obtain ⟨vs, s1, l1, l2, h1, h2⟩ := M.bind_some h
  obtain ⟨rfl, vs', h3, h4⟩ := mapM_res hT hH h1
  obtain ⟨rfl, rfl⟩ := M.ret_some h2
  refine ⟨rfl, _, ?_, oneOf_rel h4⟩
  unfold results
  rw [Sem.run_bind, Array.mapM_eq_mapM_toList, Sem.run_map]
  exact (congrArg (fun r => Result.andThen (Result.andThen r fun a w' => Result.ok a.toArray w') fun a w' => Sem.run P (pure (if h : a.size = 1 then a[0] else Value.tuple a)) w') (show _ = Result.ok vs' w from h3)).trans rfl
theorem init_rel {φ : Ren} {args args' : List Value} (h : RelL φ args args') (n : Nat) : TRel φ (initT args) { tmps := (⟨args'⟩ : Array Value) ++ Array.replicate n undef, defers := [] } := fun t => by
  unfold initT
  simp only [Array.getD_eq_getD_getElem?]
  rw [List.getD_eq_getElem?_getD]
  rcases Nat.lt_or_ge t args.length with hlt | hge
  · obtain ⟨v', h1, h2⟩ := h.get t _ (List.getElem?_eq_getElem hlt)
    have hlt' : t < args'.length := by rw [← h.length]; exact hlt
    rw [List.getElem?_eq_getElem hlt, Option.getD_some, Array.getElem?_append_left (by simpa using hlt')]
    have : (⟨args'⟩ : Array Value)[t]? = some v' := by simpa using h1
    rw [this]
    exact h2
  · rw [List.getElem?_eq_none hge, Option.getD_none]
    have hge' : args'.length ≤ t := by rw [← h.length]; exact hge
    rw [Array.getElem?_append_right (by simpa using hge')]
    rw [Array.getElem?_replicate]
    split <;> exact .tuple .nil
section
variable {P : Program} {F : FuncId → Bool} (hm : P.follows .mixedOrders = true) (hF : ∀ f, F f = true → okFn P f = true)
include hm hF
mutual
theorem exec_sound : ∀ (k : Nat) (c : Code) (n : Nat) (T : Nat → Value) (s : St) (ex : Ex) (T' : Nat → Value) (s' : St), exec P F k c T s = some (ex, T', s') → okCode n c = true →
    ∀ (base : Nat) (φ : Ren) (a : Act) (w : World), n ≤ a.tmps.size → Clear s s'.next → TRel φ T a → HRel base φ s.get w → Fresh φ s.next s'.next → c.wp P (ExecPost base φ s a w ex T' s') a w
  | 0, c, n, T, s, ex, T', s', h, _, base, φ, a, w, _, _, _, _, _ => by simp [exec] at h
  | k + 1, c, n, T, s, ex, T', s', h, hok, base, φ, a, w, hn, hclr, hT, hH, hfr => by
    have ih := exec_sound k
    have hcall := callF_sound k
    have hgood := good_callF P F k
    have now : Post base φ s a w T s a w := ⟨φ, Ext.refl _ _ _, hH, Below.refl _ _, hT, rfl, rfl⟩
    have split2 : ∀ (a' b' : Code) (ha : okCode n a' = true) (hb : okCode n b' = true) (hx : ((exec P F k a' T s).bind fun r => match r.1 with | .normal => exec P F k b' r.2.1 r.2.2 | e => some r) = some (ex, T', s')) (Q : Exit → Act → World → Prop)
        (hQ : ∀ e b w', ExecPost base φ s a w ex T' s' e b w' → Q e b w'), a'.wp P (Exit.then (b'.wp P Q) Q) a w := fun a' b' ha hb hx Q hQ => by
      obtain ⟨⟨e1, T1, s1⟩, h1, h2⟩ := Option.bind_eq_some_iff.1 hx
      have g1 := good_exec P F k a' T
      have n1 := (g1.next s (e1, T1) s1 (by rw [h1]; rfl)).1
      cases e1 with
      | normal =>
        simp only [] at h2
        have n2 := ((good_exec P F k b' T1).next s1 (ex, T') s' (by rw [h2]; rfl)).1
        refine wp_mono (ih a' n T s _ T1 s1 h1 ha base φ a w hn (fun b hb hb' => hclr b hb (by omega)) hT hH (hfr.sub (Nat.le_refl _) n2)) fun e b w' hp => ?_
        obtain ⟨rfl, φ1, q1, q2, q3, q4, q5, q6⟩ := hp
        refine wp_mono (ih b' n T1 s1 ex T' s' h2 hb base φ1 b w' (by rw [q5]; exact hn) (fun c hc hc' => g1.old s (Ex.normal, T1) s1 (by rw [h1]; rfl) c (hclr c (by omega) hc') (by omega)) q4 q2 (hfr.after n1 q1)) fun e b2 w2 hp2 => ?_
        exact hQ _ _ _ ⟨hp2.1, hp2.2.trans n1 n2 q1 q3 q5 q6⟩
      | ret =>
        cases h2
        refine wp_mono (ih a' n T s _ _ _ h1 ha base φ a w hn hclr hT hH hfr) fun e b w' hp => ?_
        obtain ⟨rfl, hp⟩ := hp
        exact hQ _ _ _ ⟨rfl, hp⟩
      | exit id =>
        cases h2
        refine wp_mono (ih a' n T s _ _ _ h1 ha base φ a w hn hclr hT hH hfr) fun e b w' hp => ?_
        obtain ⟨rfl, hp⟩ := hp
        exact hQ _ _ _ ⟨rfl, hp⟩
    cases c with
    | skip => simp only [exec, Option.some.injEq, Prod.mk.injEq] at h; obtain ⟨rfl, rfl, rfl⟩ := h; exact wp_skip ⟨rfl, now⟩
    | label l => simp only [exec, Option.some.injEq, Prod.mk.injEq] at h; obtain ⟨rfl, rfl, rfl⟩ := h; exact wp_label ⟨rfl, now⟩
    | ret => simp only [exec, Option.some.injEq, Prod.mk.injEq] at h; obtain ⟨rfl, rfl, rfl⟩ := h; exact wp_ret ⟨rfl, now⟩
    | exit id => simp only [exec, Option.some.injEq, Prod.mk.injEq] at h; obtain ⟨rfl, rfl, rfl⟩ := h; exact wp_exit ⟨rfl, now⟩
    | region id ops draw =>
      simp only [okCode, Bool.and_eq_true] at hok
      have hos := oks (a := a) hok.1 hn
      cases draw with
      | false =>
        simp only [exec] at h
        obtain ⟨⟨T1, s1⟩, h1, h2⟩ := Option.map_eq_some_iff.1 h
        cases h2
        refine wp_region_list ?_
        refine runOps_sound (a := a) hcall hgood ops.toList hos φ s T a w hclr rfl hT hH h1 hfr fun b' w' hp => ⟨rfl, hp⟩
      | true =>
        simp only [exec] at h
        obtain ⟨⟨T1, s1⟩, h1, h2⟩ := Option.map_eq_some_iff.1 h
        cases h2
        exact drawOps_sound hcall hgood hm hos (by simpa using hok.2) h1 hclr hT hH hfr fun b' w' hp => ⟨rfl, hp⟩
    | seq a' b' =>
      simp only [okCode, Bool.and_eq_true] at hok
      simp only [exec] at h
      exact wp_seq (split2 a' b' hok.1 hok.2 h _ fun e b w' hp => hp)
    | cond c' a' b' =>
      simp only [okCode, Bool.and_eq_true] at hok
      simp only [exec] at h
      cases hb : boolOf? (ev T c') with
      | none => rw [hb] at h; cases h
      | some t =>
        rw [hb] at h
        have hc' := boolOf_rel hb (ev_rel hT hok.1.1)
        cases t with
        | true => exact wp_cond_true hc' (ih a' n T s ex T' s' h hok.1.2 base φ a w hn hclr hT hH hfr)
        | false => exact wp_cond_false hc' (ih b' n T s ex T' s' h hok.2 base φ a w hn hclr hT hH hfr)
    | scope c' =>
      simp only [exec] at h
      refine wp_scope_straight (wp_mono (ih c' n T s ex T' s' h hok base φ a w hn hclr hT hH hfr) fun e b w' hp => ?_)
      obtain ⟨rfl, hp⟩ := hp
      cases ex <;> exact ⟨rfl, hp⟩
    | block id c' =>
      simp only [okCode] at hok
      simp only [exec] at h
      obtain ⟨⟨e1, T1, s1⟩, h1, h2⟩ := Option.map_eq_some_iff.1 h
      simp only [Prod.mk.injEq] at h2
      obtain ⟨rfl, rfl, rfl⟩ := h2
      refine wp_block (wp_mono (ih c' n T s e1 T1 s1 h1 hok base φ a w hn hclr hT hH hfr) fun e b w' hp => ?_)
      obtain ⟨rfl, hp⟩ := hp
      cases e1 with
      | normal => exact ⟨by simp [Ex.exit'], hp⟩
      | ret => exact ⟨by simp [Ex.exit'], hp⟩
      | exit id' =>
        show (if id' = id then _ else _)
        by_cases hid : id' = id
        · rw [if_pos hid]
          exact ⟨by rw [if_pos (by rw [hid])]; rfl, hp⟩
        · rw [if_neg hid]
          exact ⟨by rw [if_neg (fun h => hid (Ex.exit.inj h))]; rfl, hp⟩
    | loop c' =>
      simp only [okCode] at hok
      exact wp_loop_rounds (k + 1) (loop_sound (k + 1) c' n T s ex T' s' h hok base φ a w hn hclr hT hH hfr _ fun e b w' hp => hp)
    | _ => simp [okCode] at hok
theorem loop_sound : ∀ (k : Nat) (c : Code) (n : Nat) (T : Nat → Value) (s : St) (ex : Ex) (T' : Nat → Value) (s' : St), exec P F k (.loop c) T s = some (ex, T', s') → okCode n c = true →
    ∀ (base : Nat) (φ : Ren) (a : Act) (w : World), n ≤ a.tmps.size → Clear s s'.next → TRel φ T a → HRel base φ s.get w → Fresh φ s.next s'.next → ∀ (Q : Exit → Act → World → Prop), (∀ e b w', ExecPost base φ s a w ex T' s' e b w' → Q e b w') → Code.rounds P c Q k a w
  | 0, c, n, T, s, ex, T', s', h, _, base, φ, a, w, _, _, _, _, _, _, _ => by simp [exec] at h
  | k + 1, c, n, T, s, ex, T', s', h, hok, base, φ, a, w, hn, hclr, hT, hH, hfr, Q, hQ => by
    have ih := exec_sound k c
    have ihl := loop_sound k c
    simp only [exec] at h
    rw [rounds_succ]
    obtain ⟨⟨e1, T1, s1⟩, h1, h2⟩ := Option.bind_eq_some_iff.1 h
    have g1 := good_exec P F k c T
    have n1 := (g1.next s (e1, T1) s1 (by rw [h1]; rfl)).1
    cases e1 with
    | normal =>
      simp only [] at h2
      have n2 := ((good_exec P F k (.loop c) T1).next s1 (ex, T') s' (by rw [h2]; rfl)).1
      refine wp_mono (ih n T s _ T1 s1 h1 hok base φ a w hn (fun b hb hb' => hclr b hb (by omega)) hT hH (hfr.sub (Nat.le_refl _) n2)) fun e b w' hp => ?_
      obtain ⟨rfl, φ1, q1, q2, q3, q4, q5, q6⟩ := hp
      exact ihl n T1 s1 ex T' s' h2 hok base φ1 b w' (by rw [q5]; exact hn) (fun c' hc hc' => g1.old s (Ex.normal, T1) s1 (by rw [h1]; rfl) c' (hclr c' (by omega) hc') (by omega)) q4 q2 (hfr.after n1 q1) Q fun e b2 w2 hp2 => hQ _ _ _ ⟨hp2.1, hp2.2.trans n1 n2 q1 q3 q5 q6⟩
    | ret =>
      cases h2
      refine wp_mono (ih n T s _ _ _ h1 hok base φ a w hn hclr hT hH hfr) fun e b w' hp => ?_
      obtain ⟨rfl, hp⟩ := hp
      exact hQ _ _ _ ⟨rfl, hp⟩
    | exit id =>
      cases h2
      refine wp_mono (ih n T s _ _ _ h1 hok base φ a w hn hclr hT hH hfr) fun e b w' hp => ?_
      obtain ⟨rfl, hp⟩ := hp
      exact hQ _ _ _ ⟨rfl, hp⟩
theorem callF_sound : ∀ (k : Nat), CallOK P (callF P F k)
  | 0 => fun f args s v s' h => by simp [callF] at h
  | k + 1 => fun f args s v s' h hclr base φ w args' hH hr hfr => by
    have ih := exec_sound k
    rw [callF] at h
    split at h
    case isFalse => cases h
    rename_i hFf
    have hokf := hF f hFf
    unfold okFn at hokf
    split at h
    case h_2 => cases h
    rename_i fn hfn
    rw [hfn] at hokf
    simp only [] at hokf
    split at h
    case h_2 => cases h
    rename_i c hbody
    rw [hbody] at hokf
    simp only [Bool.and_eq_true] at hokf
    refine ⟨⟨fn, hfn, by simpa using hokf.1, by rw [hbody]; rfl⟩, ?_⟩
    obtain ⟨⟨ex, T1, s1⟩, h1, h2⟩ := Option.bind_eq_some_iff.1 h
    have hwp := ih c fn.ntmps (initT args) s ex T1 s1 h1 hokf.2 base φ { tmps := (⟨args'⟩ : Array Value) ++ Array.replicate (fn.ntmps - (⟨args'⟩ : Array Value).size) undef, defers := [] } w (by simp; omega)
    have hend : ∀ (l : Log), (resM P fn.results.toList T1).run s1 = some (v, s', l) → ∀ (e : Exit), (e = .normal ∨ e = .ret) → ∀ (b : Act) (w' : World), Post base φ s { tmps := (⟨args'⟩ : Array Value) ++ Array.replicate (fn.ntmps - (⟨args'⟩ : Array Value).size) undef, defers := [] } w T1 s1 b w' →
        bodyPost P fn (fun e w' => ∃ φ' v', e = .returned v' ∧ Ext φ φ' s.next s'.next ∧ HRel base φ' s'.get w' ∧ Below base w w' ∧ Rel φ' v v') e b w' := fun l hv e he b w' hp => by
      obtain ⟨φ', q1, q2, q3, q4, q5, q6⟩ := hp
      obtain ⟨rfl, v', r1, r2⟩ := res_run (P := P) (w := w') q4 q2 hv
      rcases he with rfl | rfl
      · exact ⟨q6, v', r1, φ', v', rfl, q1, q2, q3, r2⟩
      · exact ⟨q6, v', r1, φ', v', rfl, q1, q2, q3, r2⟩
    cases ex with
    | exit id => cases h2
    | normal =>
      obtain ⟨⟨v1, s2, l2⟩, h3, h4⟩ := Option.map_eq_some_iff.1 h2
      cases h4
      have hs : s1 = s2 := by
        obtain ⟨vs, s3, l3, l4, k1, k2⟩ := M.bind_some h3
        obtain ⟨_, rfl⟩ := M.ret_some k2
        exact resList_same k1
      subst hs
      exact calls_of_wp hfn hbody (wp_mono (hwp hclr (init_rel hr _) hH hfr) fun e b w' hp => by
        obtain ⟨rfl, hp⟩ := hp
        exact hend _ h3 _ (.inl rfl) b w' hp)
    | ret =>
      obtain ⟨⟨v1, s2, l2⟩, h3, h4⟩ := Option.map_eq_some_iff.1 h2
      cases h4
      have hs : s1 = s2 := by
        obtain ⟨vs, s3, l3, l4, k1, k2⟩ := M.bind_some h3
        obtain ⟨_, rfl⟩ := M.ret_some k2
        exact resList_same k1
      subst hs
      exact calls_of_wp hfn hbody (wp_mono (hwp hclr (init_rel hr _) hH hfr) fun e b w' hp => by
        obtain ⟨rfl, hp⟩ := hp
        exact hend _ h3 _ (.inr rfl) b w' hp)
end
end
end Go.Am
