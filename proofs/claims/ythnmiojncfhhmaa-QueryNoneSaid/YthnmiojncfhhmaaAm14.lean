/- A region of the abstract machine in any order is the model's: one more operation, and all of them. No condition. -/
import Derived.Test.YthnmiojncfhhmaaAm13
set_option linter.unusedVariables false
set_option linter.unusedSimpArgs false
set_option linter.unusedSectionVars false
namespace Go.Am
open Go.RowKit (Below)
/-- A canonical run of a drawn region, with all that is known of it. -/
structure Canon (call : CallF) (P : Program) (ops : Array Oper) (Ts : Nat → Nat → Value) (ss : Nat → St) (st : Nat → Step) (hs : Nat → List Step) : Prop where
  good : GoodCall call
  ok : okDraw ops = true
  compat : allCompat (Region.before ops) (hs ops.size) = true
  hs0 : hs 0 = []
  step : ∀ i, i < ops.size → ∃ o, ops[i]? = some o ∧ drawStep call P ops (Region.before ops) (hs i) i o (Ts i) (ss i) = some (st i, ss (i + 1)) ∧ Ts (i + 1) = putT (Ts i) o.dst (st i).v ∧ hs (i + 1) = st i :: hs i
  clear : Clear (ss 0) (ss ops.size).next
section
variable {call : CallF} {P : Program} {ops : Array Oper} {Ts : Nat → Nat → Value} {ss : Nat → St} {st : Nat → Step} {hs : Nat → List Step} (C : Canon call P ops Ts ss st hs)
include C
theorem Canon.good1 {i : Nat} (hi : i < ops.size) : ∃ o, ops[i]? = some o ∧ (∀ f, f = drawStep call P ops (Region.before ops) (hs i) i o (Ts i) → Good f ∧ f (ss i) = some (st i, ss (i + 1))) := by
  obtain ⟨o, h1, h2, _⟩ := C.step i hi
  exact ⟨o, h1, fun f hf => by subst hf; exact ⟨good_drawStep C.good _ _ _ _ _, h2⟩⟩
theorem Canon.next1 {i : Nat} (hi : i < ops.size) : (ss i).next ≤ (ss (i + 1)).next := by
  obtain ⟨o, _, h⟩ := C.good1 hi
  obtain ⟨g, h⟩ := h _ rfl
  exact (g.next _ _ _ h).1
theorem Canon.next : ∀ (d i : Nat), i + d ≤ ops.size → (ss i).next ≤ (ss (i + d)).next
  | 0, i, _ => Nat.le_refl _
  | d + 1, i, h => by
    have h1 := Canon.next d i (by omega)
    have h2 := C.next1 (i := i + d) (by omega)
    exact Nat.le_trans h1 h2
theorem Canon.nextle {i j : Nat} (h : i ≤ j) (hj : j ≤ ops.size) : (ss i).next ≤ (ss j).next := by
  have := C.next (j - i) i (by omega)
  rwa [show i + (j - i) = j by omega] at this
theorem Canon.old1 {i : Nat} (hi : i < ops.size) {b : Nat} (hb : (ss i).get b = none) (hn : ¬ ((ss i).next ≤ b ∧ b < (ss (i + 1)).next)) : (ss (i + 1)).get b = none := by
  obtain ⟨o, _, h⟩ := C.good1 hi
  obtain ⟨g, h⟩ := h _ rfl
  exact g.old _ _ _ h b hb hn
/-- A name of a later operation is free at the head of this one. -/
theorem Canon.free : ∀ (k : Nat), k ≤ ops.size → ∀ b, (ss k).next ≤ b → b < (ss ops.size).next → (ss k).get b = none
  | 0, _, b, hb, hb' => C.clear b hb hb'
  | k + 1, hk, b, hb, hb' => by
    have h1 := C.next1 (i := k) (by omega)
    exact C.old1 (by omega) (Canon.free k (by omega) b (by omega) hb') (by omega)
theorem Canon.touch1 {i : Nat} (hi : i < ops.size) {b : Nat} (h : (ss (i + 1)).get b ≠ (ss i).get b) : (match (st i).foot with | .names l => Touched l b | .pure => (ss i).next ≤ b ∧ b < (ss (i + 1)).next | .loud => True) := by
  obtain ⟨o, _, h2, _⟩ := C.step i hi
  obtain ⟨_, _, _, hk⟩ := kind_of h2
  revert hk
  generalize (st i).foot = ft
  intro hk
  cases hk with
  | skip hw hv hs => exact absurd (by rw [hs]) h
  | run hw hc l hr => exact Classical.byContradiction fun hn => h ((runF hr).touch b hn)
  | loud hw hc f args hf hr => trivial
  | pure hw hc f args hf s1 hr hs =>
    refine Classical.byContradiction fun hn => h ?_
    rw [hs] at hn ⊢
    show (if (ss i).next ≤ b ∧ b < s1.next then s1.get b else (ss i).get b) = (ss i).get b
    rw [if_neg (show ¬ ((ss i).next ≤ b ∧ b < s1.next) from hn)]
/-- A block that an operation touches lies below the names of the later ones. -/
theorem Canon.touch_lt {i : Nat} (hi : i < ops.size) {b : Nat} (h : (ss (i + 1)).get b ≠ (ss i).get b) (hb : b < (ss ops.size).next) : b < (ss (i + 1)).next := by
  refine Classical.byContradiction fun hn => h ?_
  rw [C.free (i + 1) (by omega) b (by omega) hb]
  have := C.next1 hi
  exact (C.free i (by omega) b (by omega) hb).symm
theorem Canon.new_ge {i : Nat} (hi : i < ops.size) {l : Log} (hf : (st i).foot = .names l) {b : Nat} (h : (b, Acc.new) ∈ l) : (ss i).next ≤ b ∧ b < (ss (i + 1)).next := by
  obtain ⟨o, _, h2, _⟩ := C.step i hi
  obtain ⟨_, _, _, hk⟩ := kind_of h2
  rw [hf] at hk
  cases hk with
  | skip hw hv hs => cases h
  | run hw hc l hr => exact (runF hr).new b h
theorem Canon.hs_mem : ∀ (k : Nat), k ≤ ops.size → ∀ i, i < k → ∃ l, hs k = l ++ st i :: hs i
  | 0, _, i, hi => by omega
  | k + 1, hk, i, hi => by
    obtain ⟨o, _, _, _, h4⟩ := C.step k (by omega)
    by_cases h : i = k
    · subst h
      exact ⟨[], h4⟩
    · obtain ⟨l, hl⟩ := Canon.hs_mem k (by omega) i (by omega)
      exact ⟨st k :: l, by rw [h4, hl]; rfl⟩
theorem Canon.sti {i : Nat} (hi : i < ops.size) : (st i).i = i ∧ (st i).n = (ss i).next ∧ (st i).n' = (ss (i + 1)).next := by
  obtain ⟨o, _, h2, _⟩ := C.step i hi
  obtain ⟨h3, h4, h5, _⟩ := kind_of h2
  exact ⟨h3, h4, h5⟩
theorem Canon.pair {i k : Nat} (hik : i < k) (hk : k < ops.size) : ((Region.before ops).getD k 0).testBit i = true ∨ (((Region.before ops).getD k 0).testBit i = false ∧ Go.Am.compat (st i) (st k) = true) := by
  cases hbit : ((Region.before ops).getD k 0).testBit i with
  | true => exact .inl rfl
  | false =>
  refine .inr ⟨rfl, ?_⟩
  obtain ⟨l, hl⟩ := C.hs_mem ops.size (Nat.le_refl _) k hk
  obtain ⟨l2, hl2⟩ := C.hs_mem k (by omega) i hik
  have := allCompat_pair C.compat (st i) (st k) l l2 (hs i) (by rw [hl, hl2]; simp)
  rw [(C.sti hk).1, (C.sti (by omega : i < ops.size)).1, hbit] at this
  simpa using this
theorem Canon.apart {i k : Nat} (hik : i < k) (hk : k < ops.size) {oi ok : Oper} (hi : ops[i]? = some oi) (hok : ops[k]? = some ok) : ((Region.before ops).getD k 0).testBit i = true ∨ oi.apart ops ok = true := by
  have h := C.ok
  unfold okDraw at h
  rw [List.all_eq_true] at h
  have h1 := h (ok, k) (by
    rw [List.mem_zipIdx_iff_getElem?]
    simpa using hok)
  simp only [Bool.and_eq_true] at h1
  have h2 := List.all_eq_true.1 h1.2 (oi, i) (by
    rw [List.mem_zipIdx_iff_getElem?]
    simpa using hi)
  simp only [Bool.or_eq_true, decide_eq_true_eq] at h2
  rcases h2 with (h2 | h2) | h2
  · omega
  · exact .inl h2
  · exact .inr h2
theorem Canon.on_lt {k : Nat} {o : Oper} (hok : ops[k]? = some o) {e : Edge} (he : e ∈ o.after) (hb : Region.binds .any e = true) : e.on < k := by
  have h := C.ok
  unfold okDraw at h
  rw [List.all_eq_true] at h
  have h1 := h (o, k) (by
    rw [List.mem_zipIdx_iff_getElem?]
    simpa using hok)
  simp only [Bool.and_eq_true] at h1
  have h2 := (Array.all_eq_true_iff_forall_mem.1 h1.1) e he
  simpa [hb] using h2
end
/-- What has been run so far: a set that holds all that its members wait for. -/
structure Sofar (ops : Array Oper) (S : Nat → Prop) : Prop where
  anc : ∀ i, S i → ∀ j, ((Region.before ops).getD i 0).testBit j = true → S j
  lt : ∀ i, S i → i < ops.size
noncomputable def memOf (ops : Array Oper) (ss : Nat → St) (S : Nat → Prop) (b : Nat) : Option Blk :=
  lastVal (fun i => S i ∧ (ss (i + 1)).get b ≠ (ss i).get b) (fun i => (ss (i + 1)).get b) ((ss 0).get b) ops.size
noncomputable def tmpOf (ops : Array Oper) (Ts : Nat → Nat → Value) (st : Nat → Step) (S : Nat → Prop) (t : Nat) : Value :=
  lastVal (fun i => S i ∧ (ops[i]?).bind (·.dst) = some t) (fun i => (st i).v) (Ts 0 t) ops.size
section
variable {call : CallF} {P : Program} {ops : Array Oper} {Ts : Nat → Nat → Value} {ss : Nat → St} {st : Nat → Step} {hs : Nat → List Step} (C : Canon call P ops Ts ss st hs)
include C
theorem Canon.mem_eq : ∀ (k : Nat), k ≤ ops.size → ∀ b, (ss k).get b = lastVal (fun i => (ss (i + 1)).get b ≠ (ss i).get b) (fun i => (ss (i + 1)).get b) ((ss 0).get b) k
  | 0, _, b => rfl
  | k + 1, hk, b => by
    by_cases h : (ss (k + 1)).get b ≠ (ss k).get b
    · rw [lastVal_yes h]
    · rw [lastVal_no h, ← Canon.mem_eq k (by omega) b]
      exact Classical.byContradiction h
theorem Canon.tmp_eq : ∀ (k : Nat), k ≤ ops.size → ∀ t, Ts k t = lastVal (fun i => (ops[i]?).bind (·.dst) = some t) (fun i => (st i).v) (Ts 0 t) k
  | 0, _, t => rfl
  | k + 1, hk, t => by
    obtain ⟨o, h1, _, h3, _⟩ := C.step k (by omega)
    have hb : (ops[k]?).bind (·.dst) = o.dst := by rw [h1]; rfl
    rw [h3]
    by_cases h : o.dst = some t
    · rw [lastVal_yes (by rw [hb]; exact h), h]
      simp [putT, upd]
    · rw [lastVal_no (by rw [hb]; exact h), ← Canon.tmp_eq k (by omega) t]
      unfold putT
      cases hd : o.dst with
      | none => rfl
      | some d =>
        simp only [upd]
        rw [if_neg fun e => h (by rw [hd, e])]
theorem Canon.all_mem {S : Nat → Prop} (hS : ∀ i, i < ops.size → S i) : memOf ops ss S = (ss ops.size).get := by
  funext b
  rw [C.mem_eq ops.size (Nat.le_refl _) b]
  exact lastVal_congr fun i hi => ⟨fun h => h.2, fun h => ⟨hS i hi, h⟩⟩
theorem Canon.all_tmp {S : Nat → Prop} (hS : ∀ i, i < ops.size → S i) : tmpOf ops Ts st S = Ts ops.size := by
  funext t
  rw [C.tmp_eq ops.size (Nat.le_refl _) t]
  exact lastVal_congr fun i hi => ⟨fun h => h.2, fun h => ⟨hS i hi, h⟩⟩
variable {S : Nat → Prop} (hS : Sofar ops S) {k : Nat} (hk : k < ops.size) (hkS : ¬ S k) (hanc : ∀ j, ((Region.before ops).getD k 0).testBit j = true → S j)
include hS hk hkS hanc
/-- The cases of another operation: it has been run before, it comes later, or it stands apart. -/
theorem Canon.other {i : Nat} (hi : i < ops.size) (hne : i ≠ k) : (i < k ∧ S i) ∨ (k < i ∧ ¬ S i) ∨ (i < k ∧ ((Region.before ops).getD k 0).testBit i = false ∧ Go.Am.compat (st i) (st k) = true) ∨ (k < i ∧ Go.Am.compat (st k) (st i) = true) := by
  rcases Nat.lt_or_ge i k with h | h
  · rcases C.pair h hk with h' | h'
    · exact .inl ⟨h, hanc i h'⟩
    · exact .inr (.inr (.inl ⟨h, h'⟩))
  · rcases C.pair (show k < i by omega) hi with h' | h'
    · exact .inr (.inl ⟨by omega, fun hs => hkS (hS.anc i hs k h')⟩)
    · exact .inr (.inr (.inr ⟨by omega, h'.2⟩))
/-- Where no operation that stands apart touches a block, the memory so far is that at the head of operation k. -/
theorem Canon.mem_at {b : Nat} (h : ∀ i, i < ops.size → (i < k ∧ ((Region.before ops).getD k 0).testBit i = false ∧ Go.Am.compat (st i) (st k) = true) ∨ (k < i ∧ S i ∧ Go.Am.compat (st k) (st i) = true) → (ss (i + 1)).get b = (ss i).get b) : memOf ops ss S b = (ss k).get b := by
  rw [C.mem_eq k (by omega) b]
  unfold memOf
  rw [lastVal_cut (show k ≤ ops.size by omega) fun i h1 h2 hs => ?_]
  · refine lastVal_congr fun i hi => ⟨fun hs => hs.2, fun ht => ⟨?_, ht⟩⟩
    rcases C.other hS hk hkS hanc (show i < ops.size by omega) (by omega) with h' | h' | h' | h'
    · exact h'.2
    · omega
    · exact absurd (h i (by omega) (.inl h')) ht
    · omega
  · by_cases hik : i = k
    · subst hik
      exact hkS hs.1
    · rcases C.other hS hk hkS hanc h2 hik with h' | h' | h' | h'
      · omega
      · exact h'.2 hs.1
      · omega
      · exact absurd (h i h2 (.inr ⟨h'.1, hs.1, h'.2⟩)) hs.2
theorem Canon.tmp_at {o : Oper} (ho : ops[k]? = some o) {t : Nat} (ht : t ∈ o.looksAt ops ∨ o.dst = some t) : tmpOf ops Ts st S t = Ts k t := by
  rw [C.tmp_eq k (by omega) t]
  unfold tmpOf
  have key : ∀ i, i < ops.size → i ≠ k → (ops[i]?).bind (·.dst) = some t → (i < k ∧ S i) ∨ (k < i ∧ ¬ S i) := fun i hi hne hd => by
    obtain ⟨oi, hoi, hdi⟩ := Option.bind_eq_some_iff.1 hd
    rcases Nat.lt_or_ge i k with h | h
    · rcases C.apart h hk hoi ho with h' | h'
      · exact .inl ⟨h, hanc i h'⟩
      · obtain ⟨a1, a2, a3⟩ := Oper.apart_spec h'
        rcases ht with ht | ht
        · exact absurd ht (a1 t hdi)
        · exact absurd ht (a2 t hdi)
    · rcases C.apart (show k < i by omega) hi ho hoi with h' | h'
      · exact .inr ⟨by omega, fun hs => hkS (hS.anc i hs k h')⟩
      · obtain ⟨a1, a2, a3⟩ := Oper.apart_spec h'
        rcases ht with ht | ht
        · exact absurd ht (a3 t hdi)
        · exact absurd hdi (a2 t ht)
  rw [lastVal_cut (show k ≤ ops.size by omega) fun i h1 h2 hs => ?_]
  · refine lastVal_congr fun i hi => ⟨fun hs => hs.2, fun hd => ⟨?_, hd⟩⟩
    rcases key i (by omega) (by omega) hd with h' | h'
    · exact h'.2
    · omega
  · by_cases hik : i = k
    · subst hik
      exact hkS hs.1
    · rcases key i h2 hik hs.2 with h' | h'
      · omega
      · exact h'.2 hs.1
theorem Canon.tmp_next {o : Oper} (ho : ops[k]? = some o) : tmpOf ops Ts st (fun i => S i ∨ i = k) = putT (tmpOf ops Ts st S) o.dst (st k).v := by
  funext t
  have hb : (ops[k]?).bind (·.dst) = o.dst := by rw [ho]; rfl
  by_cases hd : o.dst = some t
  · rw [hd]
    show _ = upd (tmpOf ops Ts st S) t (st k).v t
    rw [show upd (tmpOf ops Ts st S) t (st k).v t = (st k).v by simp [upd]]
    unfold tmpOf
    refine lastVal_add (sel := fun i => S i ∧ (ops[i]?).bind (·.dst) = some t) hk (fun i hi hne => ⟨fun h => ⟨h.1.resolve_right hne, h.2⟩, fun h => ⟨.inl h.1, h.2⟩⟩) (fun i h1 h2 hs => ?_) ⟨.inr rfl, by rw [hb]; exact hd⟩
    obtain ⟨oi, hoi, hdi⟩ := Option.bind_eq_some_iff.1 hs.2
    rcases C.apart h1 h2 ho hoi with h' | h'
    · exact hkS (hS.anc i hs.1 k h')
    · exact (Oper.apart_spec h').2.1 t hd hdi
  · have e : putT (tmpOf ops Ts st S) o.dst (st k).v t = tmpOf ops Ts st S t := by
      unfold putT
      cases h : o.dst with
      | none => rfl
      | some d =>
        simp only [upd]
        rw [if_neg fun e => hd (by rw [h, e])]
    rw [e]
    unfold tmpOf
    refine lastVal_congr fun i hi => ⟨fun h => ⟨h.1.resolve_right fun e => ?_, h.2⟩, fun h => ⟨.inl h.1, h.2⟩⟩
    subst e
    rw [hb] at h
    exact hd h.2
/-- The memory after one more operation. -/
theorem Canon.mem_next {b : Nat} (h : (ss (k + 1)).get b ≠ (ss k).get b → ∀ i, k < i → i < ops.size → S i → Go.Am.compat (st k) (st i) = true → (ss (i + 1)).get b = (ss i).get b) :
    ((ss (k + 1)).get b = (ss k).get b → memOf ops ss (fun i => S i ∨ i = k) b = memOf ops ss S b) ∧ ((ss (k + 1)).get b ≠ (ss k).get b → memOf ops ss (fun i => S i ∨ i = k) b = (ss (k + 1)).get b) := by
  refine ⟨fun he => ?_, fun hne => ?_⟩
  · unfold memOf
    refine lastVal_congr fun i hi => ⟨fun h => ⟨h.1.resolve_right fun e => ?_, h.2⟩, fun h => ⟨.inl h.1, h.2⟩⟩
    subst e
    exact h.2 he
  · unfold memOf
    refine lastVal_add (sel := fun i => S i ∧ (ss (i + 1)).get b ≠ (ss i).get b) hk (fun i hi hn => ⟨fun h => ⟨h.1.resolve_right hn, h.2⟩, fun h => ⟨.inl h.1, h.2⟩⟩) (fun i h1 h2 hs => ?_) ⟨.inr rfl, hne⟩
    rcases C.other hS hk hkS hanc h2 (by omega) with h' | h' | h' | h'
    · omega
    · exact h'.2 hs.1
    · omega
    · exact hs.2 (h hne i h1 h2 hs.1 h'.2)
end
end Go.Am
