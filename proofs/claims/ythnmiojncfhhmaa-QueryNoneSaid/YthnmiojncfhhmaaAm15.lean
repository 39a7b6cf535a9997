/- A region of the abstract machine in any order is the model's: the step, and the theorem. No condition. -/
import Derived.Test.YthnmiojncfhhmaaAm14
set_option linter.unusedVariables false
set_option linter.unusedSimpArgs false
set_option linter.unusedSectionVars false
namespace Go.Am
open Go.RowKit (Below)
theorem apartL_spec {a b : Log} (h : apartL a b = true) {n : Nat} {x y : Acc} (h1 : (n, x) ∈ a) (h2 : (n, y) ∈ b) : x = .read ∧ y = .read := by
  have := List.all_eq_true.1 (List.all_eq_true.1 h _ h1) _ h2
  simpa using this
theorem outside_spec {l : Log} {n n' : Nat} (h : outside l n n' = true) {b : Nat} {x : Acc} (h1 : (b, x) ∈ l) : x ≠ .write ∧ (x = .new ∨ b < n ∨ n' ≤ b) := by
  have := List.all_eq_true.1 h _ h1
  simp only [Bool.and_eq_true, Bool.or_eq_true, decide_eq_true_eq, bne_iff_ne, beq_iff_eq] at this
  refine ⟨this.1, ?_⟩
  rcases this.2 with (h | h) | h
  · exact .inl h
  · exact .inr (.inl h)
  · exact .inr (.inr h)
section
variable {call : CallF} {P : Program} {ops : Array Oper} {Ts : Nat → Nat → Value} {ss : Nat → St} {st : Nat → Step} {hs : Nat → List Step} (C : Canon call P ops Ts ss st hs)
include C
/-- Two operations that stand apart: what the one touches, the other does not look at. -/
theorem Canon.clash {i k : Nat} (hi : i < ops.size) (hk : k < ops.size) (hne : i ≠ k) (hc : Go.Am.compat (st i) (st k) = true ∨ Go.Am.compat (st k) (st i) = true) {l : Log} (hl : (st k).foot = .names l) {b : Nat} (ht : (ss (i + 1)).get b ≠ (ss i).get b) (x : Acc) : (b, x) ∉ l := by
  intro hb
  have h1 := C.touch1 hi ht
  have hsi := C.sti hi
  have hnn : ∀ y, (b, y) ∈ l → y = .new → (ss k).next ≤ b ∧ b < (ss (k + 1)).next := fun y hy he => by
    subst he
    exact C.new_ge hk hl hy
  have hdis : ((ss i).next ≤ b ∧ b < (ss (i + 1)).next) → ¬ ((ss k).next ≤ b ∧ b < (ss (k + 1)).next) := fun h h' => by
    rcases Nat.lt_or_ge i k with hlt | hlt
    · have := C.nextle (show i + 1 ≤ k by omega) (by omega)
      omega
    · have := C.nextle (show k + 1 ≤ i by omega) (by omega)
      omega
  revert h1 hc
  unfold Go.Am.compat
  rw [hl]
  cases hf : (st i).foot with
  | names m =>
    simp only []
    intro hc h1
    rcases hc with hc | hc
    · rcases h1 with h1 | h1
      · have := apartL_spec hc h1 hb
        cases this.1
      · have := apartL_spec hc h1 hb
        cases this.1
    · rcases h1 with h1 | h1
      · have := apartL_spec hc hb h1
        cases this.2
      · have := apartL_spec hc hb h1
        cases this.2
  | pure =>
    simp only []
    intro hc h1
    have hc' : outside l (ss i).next (ss (i + 1)).next = true := by
      rw [← hsi.2.1, ← hsi.2.2]
      exact hc.elim id id
    obtain ⟨h2, h3⟩ := outside_spec hc' hb
    rcases h3 with h3 | h3 | h3
    · exact hdis h1 (hnn x hb h3)
    · omega
    · omega
  | loud =>
    simp only []
    intro hc h1
    have : l.isEmpty = true := hc.elim id id
    cases l with
    | nil => cases hb
    | cons _ _ => cases this
variable {S : Nat → Prop} (hS : Sofar ops S) {k : Nat} (hk : k < ops.size) (hkS : ¬ S k) (hanc : ∀ j, ((Region.before ops).getD k 0).testBit j = true → S j)
include hS hk hkS hanc
theorem Canon.step_at {o : Oper} (ho : ops[k]? = some o) : ∃ s₂ s₂' : St, s₂.get = memOf ops ss S ∧ s₂.next = (ss k).next ∧ s₂'.get = memOf ops ss (fun i => S i ∨ i = k) ∧ s₂'.next = (ss (k + 1)).next ∧ Clear s₂ s₂'.next ∧
    stepOp call P ops o (tmpOf ops Ts st S) s₂ = some ((st k).v, s₂') := by
  obtain ⟨o', ho', h2, _, _⟩ := C.step k hk
  rw [ho] at ho'
  cases ho'
  obtain ⟨_, _, _, hkind⟩ := kind_of h2
  have hT : ∀ t ∈ o.looksAt ops, tmpOf ops Ts st S t = Ts k t := fun t ht => C.tmp_at hS hk hkS hanc ho (.inl ht)
  have hev := ev_congr hT
  have hwn := wanted_congr hT
  have hend := C.nextle (show k + 1 ≤ ops.size by omega) (Nat.le_refl _)
  have hnk := C.next1 hk
  have hsk := C.sti hk
  generalize hft : (st k).foot = ft at hkind
  cases hkind with
  | skip hw hv hs =>
    have e : memOf ops ss (fun i => S i ∨ i = k) = memOf ops ss S := funext fun b => (C.mem_next hS hk hkS hanc (b := b) fun h => absurd (by rw [hs]) h).1 (by rw [hs])
    refine ⟨⟨memOf ops ss S, (ss k).next, 0⟩, ⟨memOf ops ss S, (ss k).next, 0⟩, rfl, rfl, e.symm, by rw [hs], fun b h h' => by simp only [] at h h'; omega, ?_⟩
    unfold stepOp
    rw [hwn, hw, hv]
    rfl
  | run hw hc l hr =>
    have F := runF hr
    have agree : ∀ b x, (b, x) ∈ l → memOf ops ss S b = (ss k).get b := fun b x hb => C.mem_at hS hk hkS hanc fun i hi hcase => by
      refine Classical.byContradiction fun ht => ?_
      rcases hcase with ⟨h1, _, h3⟩ | ⟨h1, _, h3⟩
      · exact C.clash hi hk (by omega) (.inl h3) hft ht x hb
      · exact C.clash hi hk (by omega) (.inr h3) hft ht x hb
    have hclr : Clear (ss k) (ss (k + 1)).next := fun b h h' => C.free k (by omega) b h (by omega)
    obtain ⟨t, k1, k2, k3, k4, k5⟩ := F.loc hclr ⟨memOf ops ss S, (ss k).next, (ss k).lo⟩ (fun b x hb _ => agree b x hb) rfl rfl
    refine ⟨⟨memOf ops ss S, (ss k).next, (ss k).lo⟩, t, rfl, rfl, ?_, k2, fun b h h' => ?_, ?_⟩
    · funext b
      obtain ⟨m1, m2⟩ := C.mem_next hS hk hkS hanc (b := b) fun ht i h1 h2 h3 h4 => Classical.byContradiction fun hti => by
        have ht' := C.touch1 hk ht
        rw [hft] at ht'
        rcases ht' with h | h
        · exact C.clash h2 hk (by omega) (.inr h4) hft hti _ h
        · exact C.clash h2 hk (by omega) (.inr h4) hft hti _ h
      by_cases htk : (ss (k + 1)).get b = (ss k).get b
      · rw [m1 htk]
        by_cases hl : Touched l b
        · rw [k4 b hl, htk]
          rcases hl with h | h
          · exact (agree b _ h).symm
          · exact (agree b _ h).symm
        · exact k5 b hl
      · rw [m2 htk]
        refine k4 b ?_
        have ht' := C.touch1 hk htk
        rw [hft] at ht'
        exact ht'
    · show memOf ops ss S b = none
      have h'' : b < (ss (k + 1)).next := by rw [← k2]; exact h'
      rw [agree b _ (F.cover b h h'')]
      exact hclr b h h''
    · unfold stepOp
      rw [hwn, hw, hc, opA_congr hev]
      simp only [if_true, Bool.false_eq_true, if_false, k1, Option.map_some]
  | loud hw hc f args hf hr =>
    have quiet : ∀ i, i < ops.size → Go.Am.compat (st i) (st k) = true ∨ Go.Am.compat (st k) (st i) = true → ∀ b, (ss (i + 1)).get b = (ss i).get b := fun i hi hcomp b => Classical.byContradiction fun ht => by
      have h1 := C.touch1 hi ht
      revert h1 hcomp
      unfold Go.Am.compat
      rw [hft]
      cases (st i).foot with
      | names m =>
        simp only []
        intro hcomp h1
        have : m.isEmpty = true := hcomp.elim id id
        cases m with
        | nil => rcases h1 with h | h <;> cases h
        | cons _ _ => cases this
      | pure =>
        simp only []
        intro hcomp
        rcases hcomp with h | h <;> cases h
      | loud =>
        simp only []
        intro hcomp
        rcases hcomp with h | h <;> cases h
    have e0 : memOf ops ss S = (ss k).get := funext fun b => C.mem_at hS hk hkS hanc fun i hi hcase => by
      rcases hcase with ⟨_, _, h3⟩ | ⟨_, _, h3⟩
      · exact quiet i hi (.inl h3) b
      · exact quiet i hi (.inr h3) b
    refine ⟨ss k, ss (k + 1), e0.symm, rfl, funext fun b => ?_, rfl, fun b h h' => C.free k (by omega) b h (by omega), ?_⟩
    · obtain ⟨m1, m2⟩ := C.mem_next hS hk hkS hanc (b := b) fun ht i h1 h2 h3 h4 => quiet i h2 (.inr h4) b
      by_cases htk : (ss (k + 1)).get b = (ss k).get b
      · rw [m1 htk, e0, htk]
      · rw [m2 htk]
    · unfold stepOp
      rw [hwn, hw, hc, callee_congr hev, hf]
      simp only [if_true, Option.bind_some, hr]
  | pure hw hc f args hf s1 hr hsm =>
    have hn1 : s1.next = (ss (k + 1)).next := by rw [hsm]; rfl
    have hg := C.good f args
    have later : ∀ i, i < ops.size → k < i → Go.Am.compat (st k) (st i) = true → ∀ b, b < (ss (k + 1)).next → (ss (i + 1)).get b = (ss i).get b := fun i hi hki hcomp b hb => Classical.byContradiction fun ht => by
      have h1 := C.touch1 hi ht
      have hni := C.nextle (show k + 1 ≤ i by omega) (by omega)
      revert h1 hcomp
      unfold Go.Am.compat
      rw [hft]
      cases hfi : (st i).foot with
      | names m =>
        simp only []
        intro hcomp h1
        rcases h1 with h | h
        · exact (outside_spec hcomp h).1 rfl
        · have := C.new_ge hi hfi h
          omega
      | pure =>
        simp only []
        intro hcomp h1
        omega
      | loud => simp
    have later' : ∀ i, i < ops.size → k < i → Go.Am.compat (st k) (st i) = true → ∀ b, (ss (i + 1)).get b ≠ (ss i).get b → (ss k).next ≤ b ∧ b < (ss ops.size).next := fun i hi hki hcomp b ht => by
      have h1 := C.touch1 hi ht
      have hni := C.nextle (show k + 1 ≤ i by omega) (by omega)
      have hin := C.nextle (show i + 1 ≤ ops.size by omega) (Nat.le_refl _)
      revert h1 hcomp
      unfold Go.Am.compat
      rw [hft]
      cases hfi : (st i).foot with
      | names m =>
        simp only []
        intro hcomp h1
        rcases h1 with h | h
        · exact absurd rfl (outside_spec hcomp h).1
        · have := C.new_ge hi hfi h
          omega
      | pure =>
        simp only []
        intro hcomp h1
        omega
      | loud => simp
    have earlier : ∀ i, i < k → ((Region.before ops).getD k 0).testBit i = false → Go.Am.compat (st i) (st k) = true → ∀ b, (ss (i + 1)).get b ≠ (ss i).get b → (hide (hid (Region.before ops) k (hs k)) (ss k)).get b = none := fun i hik hbit hcomp b ht => by
      have hi : i < ops.size := by omega
      have h1 := C.touch1 hi ht
      have hsi := C.sti hi
      have hrange : (ss i).next ≤ b ∧ b < (ss (i + 1)).next := by
        revert h1 hcomp
        unfold Go.Am.compat
        rw [hft]
        cases hfi : (st i).foot with
        | names m =>
          simp only []
          intro hcomp h1
          rcases h1 with h | h
          · exact absurd rfl (outside_spec hcomp h).1
          · exact C.new_ge hi hfi h
        | pure =>
          simp only []
          intro hcomp h1
          exact h1
        | loud => simp
      have hmem : ((ss i).next, (ss (i + 1)).next) ∈ hid (Region.before ops) k (hs k) := by
        unfold hid
        obtain ⟨l, hl⟩ := C.hs_mem k (by omega) i hik
        refine List.mem_map.2 ⟨st i, List.mem_filter.2 ⟨by rw [hl]; simp, ?_⟩, by rw [hsi.2.1, hsi.2.2]⟩
        rw [hsi.1, hsi.2.1, hsi.2.2, hbit]
        simp
        omega
      unfold hide
      simp only []
      rw [if_pos]
      exact List.any_eq_true.2 ⟨_, hmem, by simp [hrange.1, hrange.2]⟩
    have hsub : Sub (hide (hid (Region.before ops) k (hs k)) (ss k)) ⟨memOf ops ss S, (ss k).next, (ss k).next⟩ := ⟨fun b hb => by
      rw [hide_get hb]
      refine C.mem_at hS hk hkS hanc fun i hi hcase => Classical.byContradiction fun ht => ?_
      rcases hcase with ⟨h1, h2, h3⟩ | ⟨h1, _, h3⟩
      · exact hb (earlier i h1 h2 h3 b ht)
      · have := later' i hi h1 h3 b ht
        rw [hide_get hb] at hb
        exact hb (C.free k (by omega) b this.1 this.2), rfl, rfl⟩
    have inrange : ∀ b, (ss k).next ≤ b → b < (ss (k + 1)).next → memOf ops ss S b = none := fun b h h' => by
      rw [← C.free k (by omega) b h (by omega)]
      refine C.mem_at hS hk hkS hanc fun i hi hcase => ?_
      rcases hcase with ⟨h1, _, _⟩ | ⟨h1, _, h3⟩
      · refine Classical.byContradiction fun ht => ?_
        have := C.touch_lt hi ht (by omega)
        have := C.nextle (show i + 1 ≤ k by omega) (by omega)
        omega
      · exact later i hi h1 h3 b h'
    have hclr : Clear (hide (hid (Region.before ops) k (hs k)) (ss k)) s1.next := hide_clear fun b h h' => C.free k (by omega) b h (by omega)
    obtain ⟨t, q, g⟩ := hg.loc _ _ _ hr hclr _ hsub
    have hnt : t.next = (ss (k + 1)).next := g.next.trans hn1
    refine ⟨⟨memOf ops ss S, (ss k).next, (ss k).next⟩, t, rfl, rfl, funext fun b => ?_, hnt, fun b h h' => inrange b h (by rw [← hnt]; exact h'), ?_⟩
    · have hm : (ss (k + 1)).get b = if (ss k).next ≤ b ∧ b < s1.next then s1.get b else (ss k).get b := by rw [hsm]; rfl
      obtain ⟨m1, m2⟩ := C.mem_next hS hk hkS hanc (b := b) fun ht i h1 h2 h3 h4 => later i h2 h1 h4 b (by
        have := C.touch1 hk ht
        rw [hft] at this
        exact this.2)
      by_cases hin : (ss k).next ≤ b ∧ b < s1.next
      · rw [g.ins b (.inr hin)]
        rw [if_pos hin] at hm
        by_cases htk : (ss (k + 1)).get b = (ss k).get b
        · rw [m1 htk, inrange b hin.1 (by omega), ← hm, htk]
          exact C.free k (by omega) b hin.1 (by omega)
        · rw [m2 htk, hm]
      · rw [if_neg hin] at hm
        rw [m1 hm]
        by_cases hv : (hide (hid (Region.before ops) k (hs k)) (ss k)).get b ≠ none
        · rw [g.ins b (.inl hv)]
          have e1 : s1.get b = (hide (hid (Region.before ops) k (hs k)) (ss k)).get b := by
            rcases Nat.lt_or_ge b (ss k).next with hlt | hge
            · exact hg.low _ _ _ hr b hlt hlt
            · exact hg.high _ _ _ hr b (by omega)
          rw [e1]
          exact (hsub.get b hv).symm
        · rw [g.out b fun h => h.elim hv hin]
    · unfold stepOp
      rw [hwn, hw, hc, callee_congr hev, hf]
      simp only [if_true, Option.bind_some, q]
end
end Go.Am
