/- A region of the abstract machine in any order is the model's. No condition. -/
import Derived.Test.YthnmiojncfhhmaaAm11
set_option linter.unusedVariables false
set_option linter.unusedSimpArgs false
set_option linter.unusedSectionVars false
namespace Go.Am
open Go.RowKit (Below)
open Classical in
/-- The value of the last chosen index below n, or d. -/
noncomputable def lastVal {α : Type} (sel : Nat → Prop) (val : Nat → α) (d : α) : Nat → α
  | 0 => d
  | n + 1 => if sel n then val n else lastVal sel val d n
theorem lastVal_yes {α : Type} {sel : Nat → Prop} {val : Nat → α} {d : α} {n : Nat} (h : sel n) : lastVal sel val d (n + 1) = val n := by simp [lastVal, h]
theorem lastVal_no {α : Type} {sel : Nat → Prop} {val : Nat → α} {d : α} {n : Nat} (h : ¬ sel n) : lastVal sel val d (n + 1) = lastVal sel val d n := by simp [lastVal, h]
theorem lastVal_congr {α : Type} {sel sel' : Nat → Prop} {val : Nat → α} {d : α} : ∀ {n : Nat}, (∀ i, i < n → (sel i ↔ sel' i)) → lastVal sel val d n = lastVal sel' val d n
  | 0, _ => rfl
  | n + 1, h => by
    have ih := lastVal_congr (val := val) (d := d) fun i (hi : i < n) => h i (by omega)
    by_cases hs : sel n
    · rw [lastVal_yes hs, lastVal_yes ((h n (by omega)).1 hs)]
    · rw [lastVal_no hs, lastVal_no fun h' => hs ((h n (by omega)).2 h'), ih]
theorem lastVal_cut {α : Type} {sel : Nat → Prop} {val : Nat → α} {d : α} {k : Nat} : ∀ {n : Nat}, k ≤ n → (∀ i, k ≤ i → i < n → ¬ sel i) → lastVal sel val d n = lastVal sel val d k
  | 0, h, _ => by
    obtain rfl : k = 0 := by omega
    rfl
  | n + 1, h, hs => by
    by_cases hk : k = n + 1
    · rw [hk]
    · rw [lastVal_no (hs n (by omega) (by omega)), lastVal_cut (by omega) fun i h1 h2 => hs i h1 (by omega)]
theorem lastVal_add {α : Type} {sel sel' : Nat → Prop} {val : Nat → α} {d : α} {k n : Nat} (hk : k < n) (h : ∀ i, i < n → i ≠ k → (sel' i ↔ sel i)) (hhi : ∀ i, k < i → i < n → ¬ sel i) (hsel : sel' k) : lastVal sel' val d n = val k := by
  rw [lastVal_cut (show k + 1 ≤ n by omega) fun i h1 h2 hs => hhi i (by omega) h2 ((h i h2 (by omega)).1 hs)]
  exact lastVal_yes hsel
/-! ### The edges -/
theorem foldl_bits (acc : Array Nat) (i : Nat) : ∀ (l : List Edge) (s : Nat), (l.foldl (fun s e => if Region.binds .any e = true then s ||| 2 ^ e.on ||| acc.getD e.on 0 else s) s).testBit i = true →
    s.testBit i = true ∨ ∃ e ∈ l, Region.binds .any e = true ∧ (e.on = i ∨ (acc.getD e.on 0).testBit i = true)
  | [], s, h => .inl h
  | e :: l, s, h => by
    rw [List.foldl_cons] at h
    rcases foldl_bits acc i l _ h with h' | ⟨e', h1, h2⟩
    · split at h'
      · rename_i hb
        rw [Nat.testBit_or, Nat.testBit_or] at h'
        simp only [Bool.or_eq_true] at h'
        rcases h' with (h' | h') | h'
        · exact .inl h'
        · refine .inr ⟨e, List.mem_cons_self .., hb, .inl ?_⟩
          rw [Nat.testBit_two_pow] at h'
          simpa using h'
        · exact .inr ⟨e, List.mem_cons_self .., hb, .inr h'⟩
      · exact .inl h'
    · exact .inr ⟨e', List.mem_cons_of_mem _ h1, h2⟩
theorem before_fold (i : Nat) : ∀ (l : List Oper) (acc : Array Nat), ∃ r : Array Nat,
    l.foldl (fun (acc : Array Nat) (o : Oper) => acc.push (o.after.foldl (fun s e => if Region.binds .any e = true then s ||| 2 ^ e.on ||| acc.getD e.on 0 else s) 0)) acc = r ∧
    (∀ j, j < acc.size → r.getD j 0 = acc.getD j 0) ∧
    ∀ j, j < l.length → (r.getD (acc.size + j) 0).testBit i = true → ∃ o, l[j]? = some o ∧ ∃ e ∈ o.after, Region.binds .any e = true ∧ (e.on = i ∨ (r.getD e.on 0).testBit i = true)
  | [], acc => ⟨acc, rfl, fun _ _ => rfl, fun j hj => by simp at hj⟩
  | o :: l, acc => by
    obtain ⟨r, h1, h2, h3⟩ := before_fold i l (acc.push (o.after.foldl (fun s e => if Region.binds .any e = true then s ||| 2 ^ e.on ||| acc.getD e.on 0 else s) 0))
    have hpre : ∀ j, j < acc.size → r.getD j 0 = acc.getD j 0 := fun j hj => by
      rw [h2 j (by simp; omega)]
      simp [Array.getElem?_push_lt hj]
      rw [Array.getElem?_eq_getElem hj]
      rfl
    refine ⟨r, by rw [List.foldl_cons]; exact h1, hpre, fun j hj hb => ?_⟩
    cases j with
    | zero =>
      rw [Nat.add_zero, h2 acc.size (by simp)] at hb
      have e0 : (acc.push (o.after.foldl (fun s e => if Region.binds .any e = true then s ||| 2 ^ e.on ||| acc.getD e.on 0 else s) 0)).getD acc.size 0 = o.after.foldl (fun s e => if Region.binds .any e = true then s ||| 2 ^ e.on ||| acc.getD e.on 0 else s) 0 := by simp
      rw [e0, ← Array.foldl_toList] at hb
      rcases foldl_bits acc i _ _ hb with h' | ⟨e, k1, k2, k3⟩
      · simp at h'
      · refine ⟨o, rfl, e, by simpa using k1, k2, k3.imp id fun k => ?_⟩
        have : e.on < acc.size := by
          rcases Nat.lt_or_ge e.on acc.size with h' | h'
          · exact h'
          · simp [Array.getElem?_eq_none h'] at k
        rw [hpre _ this]
        exact k
    | succ j =>
      have := h3 j (by simpa using hj) (by
        have e1 : acc.size + (j + 1) = (acc.push (o.after.foldl (fun s e => if Region.binds .any e = true then s ||| 2 ^ e.on ||| acc.getD e.on 0 else s) 0)).size + j := by simp; omega
        rw [← e1]
        exact hb)
      obtain ⟨o', k1, k2⟩ := this
      exact ⟨o', by rw [List.getElem?_cons_succ]; exact k1, k2⟩
theorem before_spec {ops : Array Oper} {k i : Nat} (hk : k < ops.size) (h : ((Region.before ops).getD k 0).testBit i = true) :
    ∃ o, ops[k]? = some o ∧ ∃ e ∈ o.after, Region.binds .any e = true ∧ (e.on = i ∨ ((Region.before ops).getD e.on 0).testBit i = true) := by
  obtain ⟨r, h1, _, h3⟩ := before_fold i ops.toList #[]
  have e : Region.before ops = r := by
    unfold Region.before
    rw [← Array.foldl_toList]
    exact h1
  rw [e] at h ⊢
  obtain ⟨o, k1, k2⟩ := h3 k (by simpa using hk) (by simpa using h)
  exact ⟨o, by simpa using k1, k2⟩
/-! ### The canonical run -/
structure Chain (call : CallF) (P : Program) (ops : Array Oper) (B : Array Nat) (os : List Oper) (k : Nat) (Ts : Nat → Nat → Value) (ss : Nat → St) (st : Nat → Step) (hs : Nat → List Step) : Prop where
  step : ∀ i, i < os.length → ∃ o, os[i]? = some o ∧ drawStep call P ops B (hs (k + i)) (k + i) o (Ts (k + i)) (ss (k + i)) = some (st (k + i), ss (k + i + 1)) ∧ Ts (k + i + 1) = putT (Ts (k + i)) o.dst (st (k + i)).v ∧ hs (k + i + 1) = st (k + i) :: hs (k + i)
theorem chain_of {call : CallF} {P : Program} {ops : Array Oper} {B : Array Nat} : ∀ (os : List Oper) (k : Nat) (h : List Step) (T : Nat → Value) (s : St) (h' : List Step) (T' : Nat → Value) (s' : St), drawRun call P ops B os k h T s = some ((h', T'), s') →
    ∃ Ts ss st hs, Chain call P ops B os k Ts ss st hs ∧ Ts k = T ∧ ss k = s ∧ hs k = h ∧ Ts (k + os.length) = T' ∧ ss (k + os.length) = s' ∧ hs (k + os.length) = h'
  | [], k, h, T, s, h', T', s', hr => by
    cases hr
    exact ⟨fun _ => T, fun _ => s, fun _ => ⟨0, undef, .pure, 0, 0⟩, fun _ => h, ⟨fun i hi => by simp at hi⟩, rfl, rfl, rfl, rfl, rfl, rfl⟩
  | o :: os, k, h, T, s, h', T', s', hr => by
    obtain ⟨⟨st0, s1⟩, h1, h2⟩ := Option.bind_eq_some_iff.1 hr
    obtain ⟨Ts, ss, st, hs, c, e1, e2, e3, e4, e5, e6⟩ := chain_of os (k + 1) _ _ _ _ _ _ h2
    have kk : k + 1 + os.length = k + (o :: os).length := by simp; omega
    have ne : ∀ j, k < j → j ≠ k := fun j h => by omega
    refine ⟨fun j => if j = k then T else Ts j, fun j => if j = k then s else ss j, fun j => if j = k then st0 else st j, fun j => if j = k then h else hs j, ⟨fun i hi => ?_⟩, by simp, by simp, by simp, ?_, ?_, ?_⟩
    · cases i with
      | zero =>
        refine ⟨o, rfl, ?_⟩
        simp only [Nat.add_zero, if_true]
        rw [if_neg (by omega), if_neg (by omega), if_neg (by omega), e1, e2, e3]
        exact ⟨h1, rfl, rfl⟩
      | succ i =>
        obtain ⟨o', q1, q2, q3, q4⟩ := c.step i (by simpa using hi)
        refine ⟨o', by rw [List.getElem?_cons_succ]; exact q1, ?_⟩
        have ea : k + (i + 1) = k + 1 + i := by omega
        rw [ea]
        simp only [if_neg (show k + 1 + i ≠ k by omega), if_neg (show k + 1 + i + 1 ≠ k by omega)]
        exact ⟨q2, q3, q4⟩
    · simp only [← kk, if_neg (show k + 1 + os.length ≠ k by omega)]
      exact e4
    · simp only [← kk, if_neg (show k + 1 + os.length ≠ k by omega)]
      exact e5
    · simp only [← kk, if_neg (show k + 1 + os.length ≠ k by omega)]
      exact e6
/-- What is asked of a drawn region before it is run. -/
def okDraw (ops : Array Oper) : Bool :=
  let B := Region.before ops
  ops.toList.zipIdx.all fun (o, k) =>
    o.after.all (fun e => !Region.binds .any e || decide (e.on < k)) &&
    ops.toList.zipIdx.all fun (x, i) => decide (k ≤ i) || (B.getD k 0).testBit i || x.apart ops o
theorem allCompat_pair {B : Array Nat} : ∀ {l : List Step}, allCompat B l = true → ∀ (a b : Step) (l1 l2 l3 : List Step), l = l1 ++ b :: l2 ++ a :: l3 → (B.getD b.i 0).testBit a.i = true ∨ compat a b = true
  | [], _, a, b, l1, l2, l3, e => by simp at e
  | x :: l, h, a, b, l1, l2, l3, e => by
    simp only [allCompat, Bool.and_eq_true] at h
    cases l1 with
    | nil =>
      simp only [List.nil_append, List.cons_append, List.cons.injEq] at e
      obtain ⟨rfl, rfl⟩ := e
      have := List.all_eq_true.1 h.1 a (by simp)
      simpa [Bool.or_eq_true] using this
    | cons y l1 =>
      simp only [List.cons_append, List.cons.injEq] at e
      exact allCompat_pair h.2 a b l1 l2 l3 (by rw [e.2])
end Go.Am
