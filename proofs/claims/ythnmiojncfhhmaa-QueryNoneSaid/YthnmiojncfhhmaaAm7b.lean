/- The operations of the abstract machine are those of the model: maps. No condition. -/
import Derived.Test.YthnmiojncfhhmaaAm7
set_option linter.unusedVariables false
set_option linter.unusedSimpArgs false
set_option linter.unusedSectionVars false
namespace Go.Am
open Go.RowKit (Below)
theorem pureRun_bind {α β : Type} {P : Program} (f : α → Sem β) : ∀ (x : Sem α), pureRun P (x.bind f) = (pureRun P x).bind fun a => pureRun P (f a)
  | .pure a => rfl
  | .program k => pureRun_bind f (k P)
  | .mark m k => pureRun_bind f k
  | .load .. => rfl
  | .store .. => rfl
  | .new .. => rfl
  | .shape .. => rfl
  | .freeze .. => rfl
  | .frozen .. => rfl
  | .getObj .. => rfl
  | .setObj .. => rfl
  | .choose .. => rfl
  | .sys .. => rfl
  | .halt .. => rfl
/-- Lists of entries with the same keys. -/
inductive KL : List MapEntry → List MapEntry → Prop
  | nil : KL [] []
  | cons {k v v' : Value} {n n' : Nat} {l l' : List MapEntry} (t : KL l l') : KL (⟨k, v, n⟩ :: l) (⟨k, v', n'⟩ :: l')
def Same (l' : List MapEntry) (i0 : Nat) (r r' : Option (Nat × Value)) : Prop :=
  match r, r' with
  | none, none => True
  | some (i, _), some (i', v') => i' = i ∧ i0 ≤ i ∧ ∃ e, l'[i - i0]? = some e ∧ e.val = v'
  | _, _ => False
theorem Same.cons {l' : List MapEntry} {e : MapEntry} {i0 : Nat} {r r' : Option (Nat × Value)} (h : Same l' (i0 + 1) r r') : Same (e :: l') i0 r r' := by
  unfold Same at h ⊢
  match r, r', h with
  | none, none, _ => trivial
  | some (i, _), some (i', v'), h =>
    obtain ⟨rfl, h1, e', h2, h3⟩ := h
    refine ⟨rfl, by omega, e', ?_, h3⟩
    have : i' - i0 = (i' - (i0 + 1)) + 1 := by omega
    rw [this, List.getElem?_cons_succ]
    exact h2
theorem now_same {kind : TypeDesc} {k : Value} : ∀ {l l' : List MapEntry}, KL l l' → ∀ i0, (Instr.findNow kind k l i0 = none ∧ Instr.findNow kind k l' i0 = none) ∨ ∃ r r', Instr.findNow kind k l i0 = some r ∧ Instr.findNow kind k l' i0 = some r' ∧ Same l' i0 r r'
  | _, _, .nil, i0 => .inr ⟨none, none, rfl, rfl, trivial⟩
  | _, _, .cons (k := k0) (v' := v') (n' := n') t, i0 => by
    simp only [Instr.findNow]
    cases Instr.sameNow kind k k0 with
    | none => exact .inl ⟨rfl, rfl⟩
    | some b =>
      cases b with
      | true => exact .inr ⟨_, _, rfl, rfl, rfl, Nat.le_refl _, ⟨k0, v', n'⟩, by simp, rfl⟩
      | false =>
        rcases now_same (kind := kind) (k := k) t (i0 + 1) with h | ⟨r, r', h1, h2, h3⟩
        · exact .inl h
        · exact .inr ⟨r, r', h1, h2, h3.cons⟩
theorem asking_same {P : Program} {kt : TypeId} {k : Value} : ∀ {l l' : List MapEntry}, KL l l' → ∀ i0 r, pureRun P (Instr.findAsking kt k l i0) = some r → ∃ r', pureRun P (Instr.findAsking kt k l' i0) = some r' ∧ Same l' i0 r r'
  | _, _, .nil, i0, r, h => by
    cases h
    exact ⟨none, rfl, trivial⟩
  | _, _, .cons (k := k0) (v := v0) (v' := v') (n' := n') (l := l0) t, i0, r, h => by
    have h' : ((pureRun P (Op.equal kt k k0)).bind fun b => pureRun P (if b = true then pure (some (i0, v0)) else Instr.findAsking kt k l0 (i0 + 1))) = some r := by
      rw [← pureRun_bind]
      exact h
    obtain ⟨b, h1, h2⟩ := Option.bind_eq_some_iff.1 h'
    have e : ∀ (l : List MapEntry) (v : Value) (n : Nat), pureRun P (Instr.findAsking kt k (⟨k0, v, n⟩ :: l) i0) = pureRun P (if b = true then pure (some (i0, v)) else Instr.findAsking kt k l (i0 + 1)) := fun l v n => by
      show pureRun P ((Op.equal kt k k0).bind _) = _
      rw [pureRun_bind, h1]
      rfl
    rw [e]
    cases b with
    | true =>
      simp only [if_true] at h2 ⊢
      cases h2
      exact ⟨_, rfl, rfl, Nat.le_refl _, ⟨k0, v', n'⟩, by simp, rfl⟩
    | false =>
      simp only [Bool.false_eq_true, if_false] at h2 ⊢
      obtain ⟨r', h3, h4⟩ := asking_same t (i0 + 1) r h2
      exact ⟨r', h3, h4.cons⟩
theorem key_same {P : Program} {kt : TypeId} {k : Value} {l l' : List MapEntry} (hl : KL l l') {r : Option (Nat × Value)} (h : pureRun P (Instr.findKey kt k l) = some r) : ∃ r', pureRun P (Instr.findKey kt k l') = some r' ∧ Same l' 0 r r' := by
  have e : ∀ l : List MapEntry, pureRun P (Instr.findKey kt k l) = (pureRun P (underlying kt)).bind fun d => pureRun P (match Instr.findNow d k l 0 with | some r => pure r | none => Instr.findAsking kt k l) := fun l => by
    rw [← pureRun_bind]
    rfl
  rw [e] at h ⊢
  obtain ⟨d, h1, h2⟩ := Option.bind_eq_some_iff.1 h
  rw [h1]
  simp only [Option.bind_some]
  rcases now_same (kind := d) (k := k) hl 0 with ⟨h3, h4⟩ | ⟨q, q', h3, h4, h5⟩
  · rw [h3] at h2
    rw [h4]
    exact asking_same hl 0 r h2
  · rw [h3] at h2
    rw [h4]
    cases h2
    exact ⟨q', rfl, h5⟩
theorem EL.keys {φ : Ren} {l : List (Value × Value × Nat)} {l' : List MapEntry} (h : EL φ l l') : KL (ents l) l' := by
  induction h with
  | nil => exact .nil
  | cons hk h t ih => exact .cons ih
theorem EL.length {φ : Ren} {l : List (Value × Value × Nat)} {l' : List MapEntry} (h : EL φ l l') : l.length = l'.length := by
  induction h with
  | nil => rfl
  | cons hk h t ih => rw [List.length_cons, List.length_cons, ih]
theorem EL.get {φ : Ren} {l : List (Value × Value × Nat)} {l' : List MapEntry} (h : EL φ l l') : ∀ {i : Nat} {e : Value × Value × Nat}, l[i]? = some e → ∃ v', l'[i]? = some ⟨e.1, v', e.2.2⟩ ∧ Rel φ e.2.1 v' ∧ plain e.1 = true := by
  induction h with
  | nil => intro i e he; simp at he
  | cons hk h t ih =>
    intro i e he
    cases i with
    | zero =>
      simp at he
      subst he
      exact ⟨_, rfl, h, hk⟩
    | succ i =>
      rw [List.getElem?_cons_succ] at he
      obtain ⟨v', h1, h2⟩ := ih he
      exact ⟨v', by rw [List.getElem?_cons_succ]; exact h1, h2⟩
theorem EL.set {φ : Ren} {l : List (Value × Value × Nat)} {l' : List MapEntry} (h : EL φ l l') {k v v' : Value} {n : Nat} (hk : plain k = true) (hv : Rel φ v v') : ∀ i, EL φ (l.set i (k, v, n)) (l'.set i ⟨k, v', n⟩) := by
  induction h with
  | nil => intro i; simp [EL.nil]
  | cons hk' h t ih =>
    intro i
    cases i with
    | zero => exact .cons hk hv t
    | succ i => exact .cons hk' h (ih i)
theorem EL.snoc {φ : Ren} {l : List (Value × Value × Nat)} {l' : List MapEntry} (h : EL φ l l') {k v v' : Value} {n : Nat} (hk : plain k = true) (hv : Rel φ v v') : EL φ (l ++ [(k, v, n)]) (l' ++ [⟨k, v', n⟩]) := by
  induction h with
  | nil => exact .cons hk hv .nil
  | cons hk' h t ih => exact .cons hk' h ih
theorem find_sound {P : Program} {φ : Ren} {w : World} {kt : TypeId} {k : Value} {es : List (Value × Value × Nat)} {es' : List MapEntry} (h : EL φ es es') {r : Option Nat} (hf : findA P kt k es = some r) :
    (r = none → (Instr.findKey kt k es').run P w = .ok none w) ∧ ∀ i, r = some i → ∃ e', es'[i]? = some e' ∧ (Instr.findKey kt k es').run P w = .ok (some (i, e'.val)) w := by
  unfold findA at hf
  obtain ⟨q, h1, h2⟩ := Option.map_eq_some_iff.1 hf
  obtain ⟨q', h3, h4⟩ := key_same h.keys h1
  have hrun := pureRun_run w h3
  subst h2
  refine ⟨fun hn => ?_, fun i hi => ?_⟩
  · cases q with
    | some _ => cases hn
    | none =>
      cases q' with
      | none => exact hrun
      | some _ => exact h4.elim
  · cases q with
    | none => cases hi
    | some p =>
      obtain ⟨j, v⟩ := p
      cases q' with
      | none => exact h4.elim
      | some p' =>
        obtain ⟨j', v'⟩ := p'
        obtain ⟨rfl, _, e', h5, rfl⟩ := h4
        cases hi
        exact ⟨e', by simpa using h5, hrun⟩
theorem key_check {P : Program} {b : Bool} {kt : TypeId} {k : Value} {w : World} (h : keyOk P b kt k = true) : plain k = true ∧ (Instr.checkKey b 10000 kt k).run P w = .ok () w := by
  unfold keyOk at h
  simp only [Bool.and_eq_true] at h
  refine ⟨h.1, ?_⟩
  cases hr : pureRun P (Instr.checkKey b 10000 kt k) with
  | none => rw [hr] at h; simp at h
  | some u => exact pureRun_run w hr
section
variable {P : Program} {base : Nat} {φ : Ren} {s s' : St} {w : World} {v : Value} {l : Log}
theorem run_getMap {B : Nat} {es : Array MapEntry} {c : Nat} (h : w.heap[B]? = some (.map es c)) : (getObj B).run P w = .ok (.map es c) w := by
  simp only [getObj, Sem.run, h]
theorem run_setMap {B : Nat} {es es2 : Array MapEntry} {c c2 : Nat} (h : w.heap[B]? = some (.map es c)) : (setObj B (.map es2 c2)).run P w = .ok () { w with heap := w.heap.setIfInBounds B (.map es2 c2) } := by
  simp only [setObj, Sem.run, h]
theorem mapOf_some {m : Value} {es : List (Value × Value × Nat)} (h : (mapOf m).run s = some (es, s', l)) : s = s' ∧ ((m = .map none ∧ es = []) ∨ ∃ b c, m = .map (some b) ∧ s.get b = some (.map es c)) := by
  unfold mapOf at h
  split at h
  · obtain ⟨rfl, rfl⟩ := M.ret_some h
    exact ⟨rfl, .inl ⟨rfl, rfl⟩⟩
  · rename_i b
    obtain ⟨x, l', h1, h2⟩ := M.get_some h
    cases x with
    | cells => cases h2
    | map es' c =>
      obtain ⟨rfl, rfl⟩ := M.ret_some h2
      exact ⟨rfl, .inr ⟨b, c, rfl, h1⟩⟩
  · cases h
theorem lookup_sound {t : TypeId} {m m' k k' : Value} {ok : Bool} (hH : HRel base φ s.get w) (hm : Rel φ m m') (hk : Rel φ k k') (h : (lookupA P t m k ok).run s = some (v, s', l)) : Out P base φ s s' w v (Instr.lookup t m' k' ok) := by
  unfold lookupA at h
  split at h
  case h_2 => cases h
  rename_i kt et hu
  obtain ⟨es, s1, l1, l2, h1, h2⟩ := M.bind_some h
  obtain ⟨rfl, hcase⟩ := mapOf_some h1
  split at h2
  case isFalse => cases h2
  rename_i hko
  have hpk : plain k = true := (key_check (w := w) hko).1
  obtain rfl : k' = k := rel_plain hk hpk
  have main : ∀ (es' : Array MapEntry), EL φ es es'.toList → ((Instr.lookup t m' k' ok).run P w = ((do
        Instr.checkKey es'.isEmpty 10000 kt k'
        let (v, ok') ← match ← Instr.findKey kt k' es'.toList with
          | some (_, v) => pure (v, true)
          | none => pure (← zeroValue et, false)
        pure (if ok then .tuple #[v, .bool ok'] else v)) : Sem Value).run P w) → Out P base φ s s' w v (Instr.lookup t m' k' ok) := fun es' hel hrun => by
    have hemp : es'.isEmpty = es.isEmpty := by
      have := hel.length
      cases es <;> cases h : es'.toList <;> simp_all [Array.isEmpty, ← Array.length_toList]
    have hck := (key_check (w := w) hko).2
    rw [← hemp] at hck
    split at h2
    · rename_i i hf
      split at h2
      case h_2 => cases h2
      rename_i e he
      obtain ⟨rfl, rfl⟩ := M.ret_some h2
      obtain ⟨e', h3, h4⟩ := (find_sound (w := w) hel hf).2 i rfl
      obtain ⟨v', h5, h6, h7⟩ := hel.get he
      rw [h3] at h5
      cases h5
      refine Out.same (v' := if ok then .tuple #[v', .bool true] else v') hH ?_ ?_
      · cases ok with
        | true => exact .tuple (.cons h6 (.cons (.bool _) .nil))
        | false => exact h6
      · rw [hrun]
        simp only [Sem.run_bind, hck, Result.andThen_ok, h4, Sem.run_pure]
    · rename_i hf
      split at h2
      case h_2 => cases h2
      rename_i z hz
      obtain ⟨rfl, rfl⟩ := M.ret_some h2
      have h4 := (find_sound (w := w) hel hf).1 rfl
      refine Out.same (v' := if ok then .tuple #[z, .bool false] else z) hH ?_ ?_
      · cases ok with
        | true => exact .tuple (.cons (plain_rel (zero_plain hz)) (.cons (.bool _) .nil))
        | false => exact plain_rel (zero_plain hz)
      · rw [hrun]
        simp only [Sem.run_bind, hck, Result.andThen_ok, h4, zero_run hz, Sem.run_pure]
    · cases h2
  rcases hcase with ⟨rfl, rfl⟩ | ⟨b, c, rfl, hb⟩
  · cases hm with
    | nilMap => exact main #[] .nil (by unfold Instr.lookup; rw [Sem.run_bind, run_underlying hu]; rfl)
  · cases hm with
    | map hφ =>
      rename_i B O K
      obtain ⟨B', O', K', k1, k2⟩ := hH.live b _ hb
      rw [hφ] at k1
      cases k1
      obtain ⟨rfl, hbase, es', hes, hel⟩ := k2
      exact main es' hel (by unfold Instr.lookup; simp only [Sem.run_bind, run_underlying hu, run_getMap hes, Result.andThen_ok, Sem.run_pure]; rfl)
theorem HRel.writeMap (hH : HRel base φ s.get w) {b B O K c c2 : Nat} {es es2 : List (Value × Value × Nat)} {a a2 : Array MapEntry} (hb : s.get b = some (.map es c)) (hφ : φ b = some (B, O, K)) (ha : w.heap[B]? = some (.map a c)) (hel : EL φ es2 a2.toList) :
    HRel base φ (upd s.get b (some (.map es2 c2))) { w with heap := w.heap.setIfInBounds B (.map a2 c2) } ∧ Below base w { w with heap := w.heap.setIfInBounds B (.map a2 c2) } := by
  obtain ⟨B', O', K', h1, h2⟩ := hH.live b _ hb
  rw [hφ] at h1
  cases h1
  obtain ⟨rfl, hbase, a0, h3, h4⟩ := h2
  have hlt : B < w.heap.size := (Array.getElem?_eq_some_iff.1 ha).1
  have hoth : ∀ k, k ≠ B → (w.heap.setIfInBounds B (.map a2 c2))[k]? = w.heap[k]? := fun k hk => Array.getElem?_setIfInBounds_ne (Ne.symm hk)
  have hsame : (w.heap.setIfInBounds B (.map a2 c2))[B]? = some (.map a2 c2) := by simp [hlt]
  refine ⟨⟨by simp; exact hH.bs, fun d x hd => ?_, fun d d' x x' B1 O1 K1 B2 O2 K2 hne h1 h2 h3 h4 h5 h6 => ?_⟩, rfl, rfl, rfl, by simp, fun k hk => hoth k (by omega)⟩
  · unfold upd at hd
    split at hd
    · rename_i h
      subst h
      cases hd
      exact ⟨B, 0, K, hφ, rfl, hbase, a2, hsame, hel⟩
    · rename_i hne
      obtain ⟨B1, O1, K1, h6, h7⟩ := hH.live d x hd
      refine ⟨B1, O1, K1, h6, ?_⟩
      by_cases hr : x.real = true
      · have := hH.apart b d _ _ _ _ _ _ _ _ (Ne.symm hne) hb hd hφ h6 rfl hr
        exact BRel.frame (hoth B1 (Ne.symm this)) h7
      · match x, h7, hr with
        | .cells true _ _ _, _, hr => simp [Blk.real] at hr
        | .cells false _ _ [], h7, _ => exact ⟨h7.1, fun i v hv => by simp at hv⟩
        | .cells false _ _ (_ :: _), _, hr => simp [Blk.real] at hr
        | .map _ _, h7, hr => simp [Blk.real] at hr
  · have key : ∀ d x, upd s.get b (some (.map es2 c2)) d = some x → ∃ y, s.get d = some y ∧ (x.own = true → y.own = true) ∧ (x.real = true → y.real = true) := fun d x h => by
      unfold upd at h
      split at h
      · rename_i hc
        subst hc
        cases h
        exact ⟨_, hb, fun _ => rfl, fun _ => rfl⟩
      · exact ⟨x, h, id, id⟩
    obtain ⟨y, k1, k2, _⟩ := key d x h1
    obtain ⟨y', k3, _, k4⟩ := key d' x' h2
    exact hH.apart d d' y y' _ _ _ _ _ _ hne k1 k3 h3 h4 (k2 h5) (k4 h6)
theorem update_sound {t : TypeId} {m m' k k' x x' : Value} {u : Unit} (hH : HRel base φ s.get w) (hm : Rel φ m m') (hk : Rel φ k k') (hx : Rel φ x x') (h : (updateA P t m k x).run s = some (u, s', l)) : OutU P base φ s s' w (Instr.mapUpdate t m' k' x') := by
  unfold updateA at h
  split at h
  case h_2 => cases h
  rename_i kt et b hu
  obtain ⟨blk, l1, hb, h1⟩ := M.get_some h
  cases blk with
  | cells => cases h1
  | map es c =>
    simp only [] at h1
    split at h1
    case isFalse => cases h1
    rename_i hko
    obtain ⟨hpk, hck⟩ := key_check (w := w) hko
    obtain rfl : k' = k := rel_plain hk hpk
    cases hm with
    | map hφ =>
      rename_i B O K
      obtain ⟨B', O', K', k1, k2⟩ := hH.live b _ hb
      rw [hφ] at k1
      cases k1
      obtain ⟨rfl, hbase, a, hes, hel⟩ := k2
      split at h1
      · rename_i i hf
        split at h1
        case h_2 => cases h1
        rename_i e he
        split at h1
        case h_2 => cases h1
        rename_i k2 hks
        split at h1
        case isFalse => cases h1
        rename_i hpk2
        obtain ⟨l2, h2⟩ := M.put_some h1
        obtain ⟨_, rfl⟩ := M.ret_some h2
        obtain ⟨e', h3, h4⟩ := (find_sound (w := w) hel hf).2 i rfl
        obtain ⟨v', h5, h6, h7⟩ := hel.get he
        rw [h3] at h5
        cases h5
        have hga : a[i]? = some ⟨e.1, v', e.2.2⟩ := by simpa using h3
        have hil : i < a.size := (Array.getElem?_eq_some_iff.1 hga).1
        have hmod : (a.modify i fun e => { e with key := k2, val := x' }).toList = a.toList.set i ⟨k2, x', e.2.2⟩ := by
          apply List.ext_getElem?
          intro j
          rw [Array.getElem?_toList, Array.getElem?_modify]
          by_cases hij : i = j
          · subst hij
            rw [if_pos rfl, hga, List.getElem?_set_self (by simpa using hil)]
            rfl
          · rw [if_neg hij, List.getElem?_set_ne hij, Array.getElem?_toList]
        have hel2 : EL φ (es.set i (k2, x, e.2.2)) (a.modify i fun e => { e with key := k2, val := x' }).toList := by
          rw [hmod]
          exact hel.set hpk2 hx i
        obtain ⟨q1, q2⟩ := hH.writeMap (c2 := c) hb hφ hes hel2
        refine ⟨_, rfl, q1, q2, ?_⟩
        have hks' := pureRun_run w hks
        have hkey : ((a[i]?).map (·.key)).getD k' = e.1 := by rw [hga]; rfl
        simp only [Instr.mapUpdate, Sem.run_bind, run_underlying hu, Result.andThen_ok, run_getMap hes, hck, h4, hkey, hks', run_setMap hes]
      · rename_i hf
        obtain ⟨l2, h2⟩ := M.put_some h1
        obtain ⟨_, rfl⟩ := M.ret_some h2
        have h4 := (find_sound (w := w) hel hf).1 rfl
        have hel2 : EL φ (es ++ [(k', x, c)]) (a.push { key := k', val := x', born := c }).toList := by
          rw [Array.toList_push]
          exact hel.snoc hpk hx
        obtain ⟨q1, q2⟩ := hH.writeMap (c2 := c + 1) hb hφ hes hel2
        refine ⟨_, rfl, q1, q2, ?_⟩
        simp only [Instr.mapUpdate, Sem.run_bind, run_underlying hu, Result.andThen_ok, run_getMap hes, hck, h4, run_setMap hes]
      · cases h1
theorem makeMap_sound {t : TypeId} (hH : HRel base φ s.get w) (hfr : ∀ b, s.next ≤ b → b < s'.next → φ b = none) (h : (makeMapA none).run s = some (v, s', l)) : Out P base φ s s' w v (Instr.makeMap t none) := by
  obtain ⟨l', h1⟩ := M.new_some h
  obtain ⟨rfl, rfl⟩ := M.ret_some h1
  have hn : φ s.next = none := hfr s.next (Nat.le_refl _) (Nat.lt_succ_self _)
  obtain ⟨h2, h3⟩ := hH.newB (K := 0) (x0 := .map [] 0) (o := .map #[] 0) hn rfl fun φ' _ => ⟨rfl, hH.bs, #[], heap_alloc_new w _, .nil⟩
  exact ⟨_, .map (some w.heap.size), _, h3, h2, (Below.refl _ _).alloc hH.bs _, .map (show upd φ s.next (some (w.heap.size, 0, 0)) s.next = some (w.heap.size, 0, 0) by simp [upd]), rfl⟩
end
end Go.Am
