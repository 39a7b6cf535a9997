/- What a run of the abstract machine depends on. No condition. -/
import Derived.Test.YthnmiojncfhhmaaAm9
set_option linter.unusedVariables false
set_option linter.unusedSimpArgs false
set_option linter.unusedSectionVars false
namespace Go.Am
def Clear (s : St) (n : Nat) : Prop := ∀ b, s.next ≤ b → b < n → s.get b = none
def Touched (l : Log) (b : Nat) : Prop := (b, Acc.write) ∈ l ∨ (b, Acc.new) ∈ l
theorem touched_cons {x : Nat × Acc} {l : Log} {b : Nat} : Touched (x :: l) b ↔ (x = (b, .write) ∨ x = (b, .new)) ∨ Touched l b := by
  unfold Touched
  simp only [List.mem_cons]
  constructor
  · rintro ((h | h) | (h | h))
    · exact .inl (.inl h.symm)
    · exact .inr (.inl h)
    · exact .inl (.inr h.symm)
    · exact .inr (.inr h)
  · rintro ((h | h) | (h | h))
    · exact .inl (.inl h.symm)
    · exact .inr (.inl h.symm)
    · exact .inl (.inr h)
    · exact .inr (.inr h)
structure RunF {α : Type} (m : M α) (s : St) (v : α) (s' : St) (l : Log) : Prop where
  next : s.next ≤ s'.next
  lo : s'.lo = s.lo
  touch : ∀ b, ¬ Touched l b → s'.get b = s.get b
  new : ∀ b, (b, Acc.new) ∈ l → s.next ≤ b ∧ b < s'.next
  write : ∀ b, (b, Acc.write) ∈ l → s.lo ≤ b ∧ b < s'.next
  acc : ∀ b x, (b, x) ∈ l → s.get b ≠ none ∨ (b, Acc.new) ∈ l
  cover : ∀ b, s.next ≤ b → b < s'.next → (b, Acc.new) ∈ l
  loc : Clear s s'.next → ∀ s₂ : St, (∀ b x, (b, x) ∈ l → (b, Acc.new) ∉ l → s₂.get b = s.get b) → s₂.next = s.next → s₂.lo = s.lo →
    ∃ s₂', m.run s₂ = some (v, s₂', l) ∧ s₂'.next = s'.next ∧ s₂'.lo = s.lo ∧ (∀ b, Touched l b → s₂'.get b = s'.get b) ∧ ∀ b, ¬ Touched l b → s₂'.get b = s₂.get b
theorem runF {α : Type} : ∀ {m : M α} {s s' : St} {v : α} {l : Log}, m.run s = some (v, s', l) → RunF m s v s' l
  | .fail, s, s', v, l, h => by cases h
  | .ret a, s, s', v, l, h => by
    simp only [M.run, Option.some.injEq, Prod.mk.injEq] at h
    obtain ⟨rfl, rfl, rfl⟩ := h
    refine ⟨Nat.le_refl _, rfl, fun _ _ => rfl, fun b h => (by cases h), fun b h => (by cases h), fun b x h => (by cases h), fun b h h' => (by omega), fun _ s₂ _ h1 h2 => ⟨s₂, rfl, h1, h2, fun b hb => ?_, fun _ _ => rfl⟩⟩
    rcases hb with h | h <;> cases h
  | .get b k, s, s', v, l, h => by
    simp only [M.run] at h
    cases hb : s.get b with
    | none => rw [hb] at h; cases h
    | some x =>
      rw [hb] at h
      obtain ⟨⟨a, s1, l1⟩, h1, h2⟩ := Option.map_eq_some_iff.1 h
      cases h2
      have ih := runF h1
      have ht : ∀ c, Touched ((b, Acc.read) :: l1) c ↔ Touched l1 c := fun c => by
        rw [touched_cons]
        simp
      refine ⟨ih.next, ih.lo, fun c hc => ih.touch c (fun h => hc ((ht c).2 h)), fun c hc => ih.new c (by simpa using hc), fun c hc => ih.write c (by simpa using hc), fun c x hc => ?_, fun c hc hc' => List.mem_cons_of_mem _ (ih.cover c hc hc'), fun hw s₂ hs h1' h2' => ?_⟩
      · rcases List.mem_cons.1 hc with h | h
        · cases h
          exact .inl (by rw [hb]; simp)
        · exact (ih.acc c x h).imp id fun h => List.mem_cons_of_mem _ h
      · have hbn : (b, Acc.new) ∉ (b, Acc.read) :: l1 := fun h => by
          have := ih.new b (by simpa using h)
          rw [hw b this.1 this.2] at hb
          cases hb
        obtain ⟨s₂', k1, k2, k3, k4, k5⟩ := ih.loc hw s₂ (fun c x hc hcn => hs c x (List.mem_cons_of_mem _ hc) (by simpa using hcn)) h1' h2'
        refine ⟨s₂', ?_, k2, k3, fun c hc => k4 c ((ht c).1 hc), fun c hc => k5 c (fun h => hc ((ht c).2 h))⟩
        simp only [M.run, hs b .read (List.mem_cons_self ..) hbn, hb, k1, Option.map_some]
  | .put b x k, s, s', v, l, h => by
    simp only [M.run] at h
    cases hb : s.get b with
    | none => rw [hb] at h; cases h
    | some y =>
      rw [hb] at h
      simp only [] at h
      split at h
      case isFalse => cases h
      rename_i hlo
      obtain ⟨⟨a, s1, l1⟩, h1, h2⟩ := Option.map_eq_some_iff.1 h
      cases h2
      have ih := runF h1
      have hold : ∀ c, c ≠ b → (upd s.get b x) c = s.get c := fun c hc => by unfold upd; rw [if_neg hc]
      refine ⟨ih.next, ih.lo, fun c hc => ?_, fun c hc => ih.new c (by simpa using hc), fun c hc => ?_, fun c z hc => ?_, fun c hc hc' => List.mem_cons_of_mem _ (ih.cover c hc hc'), fun hw s₂ hs h1' h2' => ?_⟩
      · rw [touched_cons] at hc
        have hcb : c ≠ b := fun e => hc (.inl (.inl (by rw [e])))
        exact (ih.touch c (fun h => hc (.inr h))).trans (hold c hcb)
      · rcases List.mem_cons.1 hc with h | h
        · cases h
          exact ⟨hlo.1, Nat.lt_of_lt_of_le hlo.2 ih.next⟩
        · exact ih.write c h
      · by_cases hcb : c = b
        · subst hcb
          exact .inl (by rw [hb]; simp)
        · rcases List.mem_cons.1 hc with h | h
          · cases h
            exact absurd rfl hcb
          · rcases ih.acc c z h with h' | h'
            · exact .inl (by rw [← hold c hcb]; exact h')
            · exact .inr (List.mem_cons_of_mem _ h')
      · have hbn : (b, Acc.new) ∉ (b, Acc.write) :: l1 := fun h => by
          have := ih.new b (by simpa using h)
          rw [hw b this.1 this.2] at hb
          cases hb
        have hw1 : Clear { s with get := upd s.get b x } s1.next := fun c hc hc' => by
          show upd s.get b x c = none
          rw [hold c (fun e => by subst e; rw [hw c hc hc'] at hb; cases hb)]
          exact hw c hc hc'
        obtain ⟨s₂', k1, k2, k3, k4, k5⟩ := ih.loc hw1 { s₂ with get := upd s₂.get b x } (fun c z hc hcn => by
          show upd s₂.get b x c = upd s.get b x c
          unfold upd
          split
          · rfl
          · exact hs c z (List.mem_cons_of_mem _ hc) (by simpa using hcn)) h1' h2'
        refine ⟨s₂', ?_, k2, k3, fun c hc => ?_, fun c hc => ?_⟩
        · simp only [M.run, hs b .write (List.mem_cons_self ..) hbn, hb, k1, Option.map_some]
          rw [if_pos (by rw [h2', h1']; exact hlo)]
        · by_cases ht : Touched l1 c
          · exact k4 c ht
          · rw [k5 c ht, ih.touch c ht]
            rw [touched_cons] at hc
            rcases hc with (h | h) | h
            · cases h
              simp [upd]
            · cases h
            · exact absurd h ht
        · rw [touched_cons] at hc
          rw [k5 c (fun h => hc (.inr h))]
          show upd s₂.get b x c = s₂.get c
          unfold upd
          rw [if_neg (fun e => hc (.inl (.inl (by rw [e]))))]
  | .new x k, s, s', v, l, h => by
    simp only [M.run] at h
    obtain ⟨⟨a, s1, l1⟩, h1, h2⟩ := Option.map_eq_some_iff.1 h
    cases h2
    have ih := runF h1
    have hn := ih.next
    simp only [] at hn
    have hold : ∀ c, c ≠ s.next → (upd s.get s.next (some x)) c = s.get c := fun c hc => by unfold upd; rw [if_neg hc]
    have hwf : Clear s s1.next → Clear { s with get := upd s.get s.next (some x), next := s.next + 1 } s1.next := fun hw c hc hcn => by
      have hc' : s.next + 1 ≤ c := hc
      show upd s.get s.next (some x) c = none
      rw [hold c (by omega)]
      exact hw c (by omega) hcn
    refine ⟨show s.next ≤ s1.next by omega, ih.lo, fun c hc => ?_, fun c hc => ?_, fun c hc => ih.write c (by simpa using hc), fun c z hc => ?_, fun c hc hc' => ?_, fun hw s₂ hs h1' h2' => ?_⟩
    · rw [touched_cons] at hc
      have hcb : c ≠ s.next := fun e => hc (.inl (.inr (by rw [e])))
      exact (ih.touch c (fun h => hc (.inr h))).trans (hold c hcb)
    · rcases List.mem_cons.1 hc with h | h
      · cases h
        exact ⟨Nat.le_refl _, show s.next < s1.next by omega⟩
      · have := ih.new c h
        simp only [] at this
        exact ⟨by omega, this.2⟩
    · by_cases hcb : c = s.next
      · subst hcb
        exact .inr (List.mem_cons_self ..)
      · rcases List.mem_cons.1 hc with h | h
        · cases h
          exact absurd rfl hcb
        · rcases ih.acc c z h with h' | h'
          · exact .inl (by rw [← hold c hcb]; exact h')
          · exact .inr (List.mem_cons_of_mem _ h')
    · by_cases hcb : c = s.next
      · subst hcb
        exact List.mem_cons_self ..
      · exact List.mem_cons_of_mem _ (ih.cover c (show s.next + 1 ≤ c by omega) hc')
    · obtain ⟨s₂', k1, k2, k3, k4, k5⟩ := ih.loc (hwf hw) { s₂ with get := upd s₂.get s₂.next (some x), next := s₂.next + 1 } (fun c z hc hcn => by
        show upd s₂.get s₂.next (some x) c = upd s.get s.next (some x) c
        rw [h1']
        unfold upd
        split
        · rfl
        · rename_i hne
          exact hs c z (List.mem_cons_of_mem _ hc) (by simp only [List.mem_cons, Prod.mk.injEq, and_true, not_or]; exact ⟨hne, hcn⟩)) (by show s₂.next + 1 = s.next + 1; rw [h1']) h2'
      refine ⟨s₂', ?_, k2, k3, fun c hc => ?_, fun c hc => ?_⟩
      · rw [h1'] at k1
        simp only [M.run, h1', k1, Option.map_some]
      · by_cases ht : Touched l1 c
        · exact k4 c ht
        · rw [k5 c ht, ih.touch c ht]
          rw [touched_cons] at hc
          rcases hc with (h | h) | h
          · cases h
          · cases h
            simp [upd, h1']
          · exact absurd h ht
      · rw [touched_cons] at hc
        rw [k5 c (fun h => hc (.inr h))]
        show upd s₂.get s₂.next (some x) c = s₂.get c
        unfold upd
        rw [if_neg (fun e => hc (.inl (.inr (by rw [e, h1']))))]
/-- One state holds what another one holds, and more. -/
structure Sub (s s₂ : St) : Prop where
  get : ∀ b, s.get b ≠ none → s₂.get b = s.get b
  next : s₂.next = s.next
  lo : s₂.lo = s.lo
structure Grow (s s' s₂ s₂' : St) : Prop where
  next : s₂'.next = s'.next
  lo : s₂'.lo = s'.lo
  ins : ∀ b, s.get b ≠ none ∨ (s.next ≤ b ∧ b < s'.next) → s₂'.get b = s'.get b
  out : ∀ b, ¬ (s.get b ≠ none ∨ (s.next ≤ b ∧ b < s'.next)) → s₂'.get b = s₂.get b
/-- What every part of the machine keeps. -/
structure Good {α : Type} (f : St → Option (α × St)) : Prop where
  next : ∀ s v s', f s = some (v, s') → s.next ≤ s'.next ∧ s'.lo = s.lo
  low : ∀ s v s', f s = some (v, s') → ∀ b, b < s.lo → b < s.next → s'.get b = s.get b
  high : ∀ s v s', f s = some (v, s') → ∀ b, s'.next ≤ b → s'.get b = s.get b
  old : ∀ s v s', f s = some (v, s') → ∀ b, s.get b = none → ¬ (s.next ≤ b ∧ b < s'.next) → s'.get b = none
  loc : ∀ s v s', f s = some (v, s') → Clear s s'.next → ∀ s₂, Sub s s₂ → ∃ s₂', f s₂ = some (v, s₂') ∧ Grow s s' s₂ s₂'
theorem Good.bind {α β : Type} {f : St → Option (α × St)} {g : α → St → Option (β × St)} (hf : Good f) (hg : ∀ a, Good (g a)) : Good fun s => (f s).bind fun r => g r.1 r.2 := by
  have split : ∀ {s v s'}, ((f s).bind fun r => g r.1 r.2) = some (v, s') → ∃ a s1, f s = some (a, s1) ∧ g a s1 = some (v, s') := fun h => by
    obtain ⟨⟨a, s1⟩, h1, h2⟩ := Option.bind_eq_some_iff.1 h
    exact ⟨a, s1, h1, h2⟩
  refine ⟨fun s v s' h => ?_, fun s v s' h b hb hn => ?_, fun s v s' h b hb => ?_, fun s v s' h b hb hn => ?_, fun s v s' h hw s₂ hs => ?_⟩
  all_goals obtain ⟨a, s1, h1, h2⟩ := split h
  · have k1 := hf.next _ _ _ h1
    have k2 := (hg a).next _ _ _ h2
    exact ⟨by omega, k2.2.trans k1.2⟩
  · have k1 := hf.next _ _ _ h1
    rw [(hg a).low _ _ _ h2 b (by omega) (by omega)]
    exact hf.low _ _ _ h1 b hb hn
  · have k2 := (hg a).next _ _ _ h2
    rw [(hg a).high _ _ _ h2 b hb]
    exact hf.high _ _ _ h1 b (by omega)
  · have k1 := hf.next _ _ _ h1
    have k2 := (hg a).next _ _ _ h2
    exact (hg a).old _ _ _ h2 b (hf.old _ _ _ h1 b hb (by omega)) (by omega)
  · have k1 := hf.next _ _ _ h1
    have k2 := (hg a).next _ _ _ h2
    have hw0 : Clear s s1.next := fun b hb hb' => hw b hb (by omega)
    have hw1 : Clear s1 s'.next := fun b hb hb' => hf.old _ _ _ h1 b (hw b (by omega) hb') (by omega)
    obtain ⟨t1, q1, g1⟩ := hf.loc _ _ _ h1 hw0 s₂ hs
    have sub1 : Sub s1 t1 := ⟨fun b hb => by
      by_cases hin : s.get b ≠ none ∨ (s.next ≤ b ∧ b < s1.next)
      · exact g1.ins b hin
      · refine absurd (hf.old _ _ _ h1 b ?_ (fun h => hin (.inr h))) hb
        exact Classical.byContradiction fun h => hin (.inl h), g1.next, g1.lo⟩
    obtain ⟨t2, q2, g2⟩ := (hg a).loc _ _ _ h2 hw1 t1 sub1
    refine ⟨t2, by simp only [q1, Option.bind_some, q2], g2.next, g2.lo, fun b hb => ?_, fun b hb => ?_⟩
    · by_cases hin : s1.get b ≠ none ∨ (s1.next ≤ b ∧ b < s'.next)
      · exact g2.ins b hin
      · have e1 : s1.get b = none := Classical.byContradiction fun h => hin (.inl h)
        rw [g2.out b hin]
        have hin1 : s.get b ≠ none ∨ (s.next ≤ b ∧ b < s1.next) := by
          rcases hb with h | h
          · exact .inl h
          · refine .inr ⟨h.1, ?_⟩
            rcases Nat.lt_or_ge b s1.next with h' | h'
            · exact h'
            · exact absurd (.inr ⟨h', h.2⟩) hin
        rw [g1.ins b hin1, e1]
        exact ((hg a).old _ _ _ h2 b e1 (fun h => hin (.inr h))).symm
    · have e0 : s.get b = none := Classical.byContradiction fun h => hb (.inl h)
      have hn1 : ¬ (s.get b ≠ none ∨ (s.next ≤ b ∧ b < s1.next)) := fun h => by
        rcases h with h | h
        · exact h e0
        · exact hb (.inr ⟨h.1, by omega⟩)
      have e1 := hf.old _ _ _ h1 b e0 (fun h => hn1 (.inr h))
      have hn2 : ¬ (s1.get b ≠ none ∨ (s1.next ≤ b ∧ b < s'.next)) := fun h => by
        rcases h with h | h
        · exact h e1
        · exact hb (.inr ⟨by omega, h.2⟩)
      rw [g2.out b hn2, g1.out b hn1]
theorem Good.ret {α : Type} (a : α) : Good fun s => some (a, s) := by
  refine ⟨fun s v s' h => ?_, fun s v s' h b _ _ => ?_, fun s v s' h b _ => ?_, fun s v s' h b hb _ => ?_, fun s v s' h hw s₂ hs => ?_⟩
  all_goals cases h
  · exact ⟨Nat.le_refl _, rfl⟩
  · rfl
  · rfl
  · exact hb
  · refine ⟨s₂, rfl, hs.next, hs.lo, fun b hb => ?_, fun _ _ => rfl⟩
    rcases hb with h | h
    · exact hs.get b h
    · omega
theorem Good.fail {α : Type} : Good fun _ : St => (none : Option (α × St)) := by
  constructor <;> intro s v s' h <;> cases h
theorem Good.run {α : Type} (m : M α) : Good fun s => (m.run s).map fun r => (r.1, r.2.1) := by
  have sp : ∀ {s v s'}, ((m.run s).map fun r => (r.1, r.2.1)) = some (v, s') → ∃ l, m.run s = some (v, s', l) := fun h => by
    obtain ⟨⟨a, s1, l⟩, h1, h2⟩ := Option.map_eq_some_iff.1 h
    cases h2
    exact ⟨l, h1⟩
  refine ⟨fun s v s' h => ?_, fun s v s' h b hb hn => ?_, fun s v s' h b hb => ?_, fun s v s' h b hb hn => ?_, fun s v s' h hw s₂ hs => ?_⟩
  all_goals obtain ⟨l, h1⟩ := sp h
  all_goals have ih := runF h1
  · exact ⟨ih.next, ih.lo⟩
  · refine ih.touch b fun ht => ?_
    rcases ht with h | h
    · have := ih.write b h
      omega
    · have := ih.new b h
      omega
  · refine ih.touch b fun ht => ?_
    rcases ht with h | h
    · have := ih.write b h
      omega
    · have := ih.new b h
      omega
  · rw [ih.touch b fun ht => ?_]
    · exact hb
    · rcases ht with h | h
      · rcases ih.acc b _ h with h' | h'
        · exact h' hb
        · exact hn (ih.new b h')
      · exact hn (ih.new b h)
  · obtain ⟨s₂', k1, k2, k3, k4, k5⟩ := ih.loc hw s₂ (fun b x hb hbn => by
      rcases ih.acc b x hb with h | h
      · exact hs.get b h
      · exact absurd h hbn) hs.next hs.lo
    refine ⟨s₂', by simp only [k1, Option.map_some], k2, k3.trans ih.lo.symm, fun b hb => ?_, fun b hb => ?_⟩
    · by_cases ht : Touched l b
      · exact k4 b ht
      · rw [k5 b ht, ih.touch b ht]
        rcases hb with h | h
        · exact hs.get b h
        · exact absurd (.inr (ih.cover b h.1 h.2)) ht
    · refine k5 b fun ht => hb ?_
      rcases ht with h | h
      · exact (ih.acc b _ h).imp id (ih.new b)
      · exact .inr (ih.new b h)
theorem Good.map {α β : Type} {f : St → Option (α × St)} (g : α → β) (hf : Good f) : Good fun s => (f s).map fun r => (g r.1, r.2) := by
  have := hf.bind fun a => Good.ret (g a)
  have e : (fun s => (f s).map fun r => (g r.1, r.2)) = fun s => (f s).bind fun r => some (g r.1, r.2) := by
    funext s
    cases f s <;> rfl
  rw [e]
  exact this
theorem Good.opt {α β : Type} (o : Option α) {g : α → St → Option (β × St)} (hg : ∀ a, Good (g a)) : Good fun s => o.bind fun a => g a s := by
  cases o with
  | none => exact Good.fail
  | some a => exact hg a
theorem Good.ite {α : Type} (c : Prop) [Decidable c] {f g : St → Option (α × St)} (hf : Good f) (hg : Good g) : Good fun s => if c then f s else g s := by
  by_cases h : c
  · simp only [if_pos h]; exact hf
  · simp only [if_neg h]; exact hg
def GoodCall (call : CallF) : Prop := ∀ f args, Good (call f args)
section
variable {call : CallF} {P : Program} {ops : Array Oper}
theorem good_stepOp (hc : GoodCall call) (o : Oper) (T : Nat → Value) : Good (stepOp call P ops o T) := by
  unfold stepOp
  exact Good.ite _ (Good.ite _ (Good.opt _ fun c => hc c.1 c.2) (Good.run _)) (Good.ret _)
theorem good_runOps (hc : GoodCall call) : ∀ (os : List Oper) (T : Nat → Value), Good (runOps call P ops os T)
  | [], T => Good.ret T
  | o :: os, T => by
    have e : runOps call P ops (o :: os) T = fun s => (stepOp call P ops o T s).bind fun r => runOps call P ops os (putT T o.dst r.1) r.2 := rfl
    rw [e]
    exact (good_stepOp hc o T).bind fun v => good_runOps hc os _
theorem Good.withNext {α β : Type} {f : St → Option (α × St)} (g : α → Nat → Nat → β) (hf : Good f) : Good fun s => (f s).map fun r => (g r.1 s.next r.2.next, r.2) := by
  have sp : ∀ {s v s'}, ((f s).map fun r => (g r.1 s.next r.2.next, r.2)) = some (v, s') → ∃ a, f s = some (a, s') ∧ g a s.next s'.next = v := fun h => by
    obtain ⟨⟨a, s1⟩, h1, h2⟩ := Option.map_eq_some_iff.1 h
    cases h2
    exact ⟨a, h1, rfl⟩
  refine ⟨fun s v s' h => ?_, fun s v s' h b hb hn => ?_, fun s v s' h b hb => ?_, fun s v s' h b hb hn => ?_, fun s v s' h hw s₂ hs => ?_⟩
  all_goals obtain ⟨a, h1, rfl⟩ := sp h
  · exact hf.next _ _ _ h1
  · exact hf.low _ _ _ h1 b hb hn
  · exact hf.high _ _ _ h1 b hb
  · exact hf.old _ _ _ h1 b hb hn
  · obtain ⟨t, q, g1⟩ := hf.loc _ _ _ h1 hw s₂ hs
    exact ⟨t, by simp only [q, Option.map_some, hs.next, g1.next], g1⟩
theorem Good.runL {α : Type} (m : M α) : Good fun s => (m.run s).map fun r => ((r.1, r.2.2), r.2.1) := by
  have h0 := Good.run m
  have sp : ∀ {s} {v : α × Log} {s'}, ((m.run s).map fun r => ((r.1, r.2.2), r.2.1)) = some (v, s') → m.run s = some (v.1, s', v.2) := fun h => by
    obtain ⟨⟨a, s1, l⟩, h1, h2⟩ := Option.map_eq_some_iff.1 h
    cases h2
    exact h1
  have up : ∀ {s} {v : α × Log} {s'}, m.run s = some (v.1, s', v.2) → ((m.run s).map fun r => (r.1, r.2.1)) = some (v.1, s') := fun h => by rw [h]; rfl
  refine ⟨fun s v s' h => h0.next _ _ _ (up (sp h)), fun s v s' h => h0.low _ _ _ (up (sp h)), fun s v s' h => h0.high _ _ _ (up (sp h)), fun s v s' h => h0.old _ _ _ (up (sp h)), fun s v s' h hw s₂ hs => ?_⟩
  have h1 := sp h
  have ih := runF h1
  obtain ⟨t, q, g⟩ := h0.loc _ _ _ (up h1) hw s₂ hs
  obtain ⟨s₂', k1, k2, k3, k4, k5⟩ := ih.loc hw s₂ (fun b x hb hbn => by
      rcases ih.acc b x hb with h | h
      · exact hs.get b h
      · exact absurd h hbn) hs.next hs.lo
  rw [k1] at q
  cases q
  exact ⟨s₂', by rw [k1]; rfl, g⟩
theorem hide_clear {r : List (Nat × Nat)} {s : St} {n : Nat} (h : Clear s n) : Clear (hide r s) n := fun b hb hb' => by
  show (if _ then none else s.get b) = none
  split
  · rfl
  · exact h b hb hb'
theorem hide_get {r : List (Nat × Nat)} {s : St} {b : Nat} (h : (hide r s).get b ≠ none) : (hide r s).get b = s.get b := by
  unfold hide at h ⊢
  simp only [] at h ⊢
  split
  · rename_i hc
    rw [if_pos hc] at h
    exact absurd rfl h
  · rfl
theorem Good.pureCall {α : Type} {f : St → Option (α × St)} (hf : Good f) (r : List (Nat × Nat)) : Good (Am.pureCall f r) := by
  have sp : ∀ {s v s'}, Am.pureCall f r s = some (v, s') → ∃ s1, f (hide r s) = some (v, s1) ∧ s' = merge s s1 := fun h => by
    obtain ⟨⟨a, s1⟩, h1, h2⟩ := Option.map_eq_some_iff.1 h
    cases h2
    exact ⟨s1, h1, rfl⟩
  refine ⟨fun s v s' h => ?_, fun s v s' h b hb hn => ?_, fun s v s' h b hb => ?_, fun s v s' h b hb hn => ?_, fun s v s' h hw s₂ hs => ?_⟩
  all_goals obtain ⟨s1, h1, rfl⟩ := sp h
  all_goals have k1 := hf.next _ _ _ h1
  · exact ⟨k1.1, rfl⟩
  · show (if s.next ≤ b ∧ b < s1.next then s1.get b else s.get b) = s.get b
    rw [if_neg (by omega)]
  · have hb' : s1.next ≤ b := hb
    show (if s.next ≤ b ∧ b < s1.next then s1.get b else s.get b) = s.get b
    rw [if_neg (by omega)]
  · show (if s.next ≤ b ∧ b < s1.next then s1.get b else s.get b) = none
    rw [if_neg (show ¬ (s.next ≤ b ∧ b < s1.next) from hn)]
    exact hb
  · have hsub : Sub (hide r s) (hide r s₂) := ⟨fun b hb => by
      have e := hide_get hb
      rw [e] at hb
      have e2 := hs.get b hb
      rw [e]
      unfold hide
      simp only []
      split
      · rename_i hc
        exfalso
        have : (hide r s).get b = none := by unfold hide; simp only []; rw [if_pos hc]
        rw [this] at e
        exact hb e.symm
      · exact e2, hs.next, hs.next⟩
    obtain ⟨t, q, g⟩ := hf.loc _ _ _ h1 (hide_clear hw) _ hsub
    refine ⟨merge s₂ t, by unfold Am.pureCall; rw [q]; rfl, g.next, hs.lo, fun b hb => ?_, fun b hb => ?_⟩
    · show (if s₂.next ≤ b ∧ b < t.next then t.get b else s₂.get b) = (if s.next ≤ b ∧ b < s1.next then s1.get b else s.get b)
      rw [hs.next, g.next]
      split
      · rename_i hsb
        exact g.ins b (.inr hsb)
      · rename_i hsb
        rcases hb with h | h
        · exact hs.get b h
        · exact absurd h hsb
    · show (if s₂.next ≤ b ∧ b < t.next then t.get b else s₂.get b) = s₂.get b
      rw [hs.next, g.next, if_neg (show ¬ (s.next ≤ b ∧ b < s1.next) from fun h => hb (.inr h))]
theorem good_drawVal (hc : GoodCall call) (B : Array Nat) (h : List Step) (k : Nat) (o : Oper) (T : Nat → Value) : Good (drawVal call P ops B h k o T) := by
  unfold drawVal
  refine Good.ite _ (Good.ite _ (Good.ite _ (Good.opt _ fun c => (hc c.1 c.2).map fun v => (v, Foot.loud)) (Good.opt _ fun c => ((hc c.1 c.2).pureCall _).map fun v => (v, Foot.pure))) ?_) (Good.ret _)
  have := (Good.runL (opA P T o)).map fun r => (r.1, Foot.names r.2)
  have e : (fun s => ((opA P T o).run s).map fun r => ((r.1, Foot.names r.2.2), r.2.1)) = fun s => (((opA P T o).run s).map fun r => ((r.1, r.2.2), r.2.1)).map fun r => ((r.1.1, Foot.names r.1.2), r.2) := by
    funext s
    cases (opA P T o).run s <;> rfl
  rw [e]
  exact this
theorem good_drawStep (hc : GoodCall call) (B : Array Nat) (h : List Step) (k : Nat) (o : Oper) (T : Nat → Value) : Good (drawStep call P ops B h k o T) :=
  (good_drawVal (P := P) (ops := ops) hc B h k o T).withNext (fun (r : Value × Foot) (n n' : Nat) => (⟨k, r.1, r.2, n, n'⟩ : Step))
theorem good_drawRun (hc : GoodCall call) (B : Array Nat) : ∀ (os : List Oper) (k : Nat) (h : List Step) (T : Nat → Value), Good (drawRun call P ops B os k h T)
  | [], k, h, T => Good.ret (h, T)
  | o :: os, k, h, T => (good_drawStep hc B h k o T).bind fun st => good_drawRun hc B os (k + 1) (st :: h) (putT T o.dst st.v)
theorem good_drawOps (hc : GoodCall call) (T : Nat → Value) : Good (drawOps call P ops T) := by
  have := (good_drawRun (P := P) (ops := ops) hc (Region.before ops) ops.toList 0 [] T).bind (g := fun r s => if allCompat (Region.before ops) r.1 = true then some (r.2, s) else none) fun r => Good.ite _ (Good.ret r.2) Good.fail
  exact this
end
mutual
theorem good_exec (P : Program) (F : FuncId → Bool) : ∀ (k : Nat) (c : Code) (T : Nat → Value), Good fun s => (exec P F k c T s).map fun r => ((r.1, r.2.1), r.2.2)
  | 0, c, T => by
    simp only [exec, Option.map_none]
    exact Good.fail
  | k + 1, c, T => by
    have hcall := good_callF P F k
    have ih := good_exec P F k
    cases c with
    | skip => simp only [exec, Option.map_some]; exact Good.ret _
    | label l => simp only [exec, Option.map_some]; exact Good.ret _
    | ret => simp only [exec, Option.map_some]; exact Good.ret _
    | exit id => simp only [exec, Option.map_some]; exact Good.ret _
    | region id ops draw =>
      cases draw with
      | false =>
        simp only [exec, Option.map_map]
        exact (good_runOps hcall ops.toList T).map fun T => (Ex.normal, T)
      | true =>
        simp only [exec, Option.map_map]
        exact (good_drawOps hcall T).map fun T => (Ex.normal, T)
    | seq a b =>
      simp only [exec]
      have h := (ih a T).bind (g := fun r s => match r.1 with | .normal => (exec P F k b r.2 s).map fun r => ((r.1, r.2.1), r.2.2) | e => some (r, s)) fun r => by
        cases r.1 with
        | normal => exact ih b r.2
        | ret => exact Good.ret r
        | exit id => exact Good.ret r
      refine cast (congrArg Good (funext fun s => ?_)) h
      cases exec P F k a T s with
      | none => rfl
      | some r =>
        obtain ⟨e, T1, s1⟩ := r
        cases e <;> rfl
    | cond c a b =>
      simp only [exec]
      cases boolOf? (ev T c) with
      | none => simp only [Option.map_none]; exact Good.fail
      | some t =>
        cases t with
        | true => exact ih a T
        | false => exact ih b T
    | scope c =>
      simp only [exec]
      exact ih c T
    | block id c =>
      simp only [exec, Option.map_map]
      have h := (ih c T).map fun r => (if r.1 = .exit id then Ex.normal else r.1, r.2)
      refine cast (congrArg Good (funext fun s => ?_)) h
      rw [Option.map_map]
      rfl
    | loop c =>
      simp only [exec]
      have h := (ih c T).bind (g := fun r s => match r.1 with | .normal => (exec P F k (.loop c) r.2 s).map fun r => ((r.1, r.2.1), r.2.2) | e => some (r, s)) fun r => by
        cases r.1 with
        | normal => exact ih (.loop c) r.2
        | ret => exact Good.ret r
        | exit id => exact Good.ret r
      refine cast (congrArg Good (funext fun s => ?_)) h
      cases exec P F k c T s with
      | none => rfl
      | some r =>
        obtain ⟨e, T1, s1⟩ := r
        cases e <;> rfl
    | _ => simp only [exec, Option.map_none]; exact Good.fail
theorem good_callF (P : Program) (F : FuncId → Bool) : ∀ (k : Nat), GoodCall (callF P F k)
  | 0 => fun f args => by
    have : callF P F 0 f args = fun s => none := by funext s; rw [callF]
    rw [this]
    exact Good.fail
  | k + 1 => fun f args => by
    have ih := good_exec P F k
    have e : callF P F (k + 1) f args = fun s => if F f = true then (P.funcs[f]?).bind fun fn => fn.body.bind fun c => (((exec P F k c (initT args) s).map fun r => ((r.1, r.2.1), r.2.2)).bind fun r => (match r.1.1 with | .exit _ => none | _ => some r.1.2).bind fun T => ((resM P fn.results.toList T).run r.2).map fun (q : Value × St × Log) => (q.1, q.2.1)) else none := by
      funext s
      rw [callF]
      split
      · cases P.funcs[f]? with
        | none => rfl
        | some fn =>
          simp only [Option.bind_some]
          cases fn.body with
          | none => rfl
          | some c =>
            simp only [Option.bind_some]
            cases exec P F k c (initT args) s with
            | none => rfl
            | some r =>
              obtain ⟨e, T1, s1⟩ := r
              cases e <;> simp only [Option.bind_some, Option.map_some] <;> rfl
      · rfl
    rw [e]
    refine Good.ite _ (Good.opt _ fun fn => Good.opt _ fun c => ?_) Good.fail
    exact (ih c (initT args)).bind (g := fun r s => (match r.1 with | .exit _ => none | _ => some r.2).bind fun T => ((resM P fn.results.toList T).run s).map fun (q : Value × St × Log) => (q.1, q.2.1)) fun r => Good.opt _ fun T => Good.run _
end
end Go.Am
