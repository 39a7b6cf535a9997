/- The operations of the abstract machine are those of the model. No condition. -/
import Derived.Test.YthnmiojncfhhmaaAm2
import Derived.Orders
set_option linter.unusedVariables false
set_option linter.unusedSimpArgs false
set_option linter.unusedSectionVars false
namespace Go.Am
open Go.RowKit (Below)
theorem M.run_bind {α β : Type} (f : α → M β) : ∀ (m : M α) (s : St), (m.bind f).run s = (m.run s).bind fun r => ((f r.1).run r.2.1).map fun q => (q.1, q.2.1, r.2.2 ++ q.2.2)
  | .fail, s => rfl
  | .ret a, s => by
    simp only [M.bind, M.run, Option.bind_some, List.nil_append]
    cases (f a).run s <;> rfl
  | .get b k, s => by
    simp only [M.bind, M.run]
    cases s.get b with
    | none => rfl
    | some x =>
      simp only [M.run_bind f (k x) s]
      cases (k x).run s with
      | none => rfl
      | some r => simp only [Option.bind_some, Option.map_some]; cases (f r.1).run r.2.1 <;> rfl
  | .put b x k, s => by
    simp only [M.bind, M.run]
    cases s.get b with
    | none => rfl
    | some y =>
      simp only []
      split
      · simp only [M.run_bind f k]
        cases k.run { s with get := upd s.get b x } with
        | none => rfl
        | some r => simp only [Option.bind_some, Option.map_some]; cases (f r.1).run r.2.1 <;> rfl
      · rfl
  | .new x k, s => by
    simp only [M.bind, M.run, M.run_bind f (k s.next)]
    cases (k s.next).run { s with get := upd s.get s.next (some x), next := s.next + 1 } with
    | none => rfl
    | some r => simp only [Option.bind_some, Option.map_some]; cases (f r.1).run r.2.1 <;> rfl
theorem M.bind_some {α β : Type} {m : M α} {f : α → M β} {s s' : St} {v : β} {l : Log} (h : (m.bind f).run s = some (v, s', l)) :
    ∃ a s1 l1 l2, m.run s = some (a, s1, l1) ∧ (f a).run s1 = some (v, s', l2) := by
  rw [M.run_bind] at h
  obtain ⟨⟨a, s1, l1⟩, h1, h2⟩ := Option.bind_eq_some_iff.1 h
  obtain ⟨⟨b, s2, l2⟩, h3, h4⟩ := Option.map_eq_some_iff.1 h2
  cases h4
  exact ⟨a, s1, l1, l2, h1, h3⟩
theorem M.ret_some {α : Type} {a v : α} {s s' : St} {l : Log} (h : (M.ret a).run s = some (v, s', l)) : a = v ∧ s = s' := by
  simp only [M.run, Option.some.injEq, Prod.mk.injEq] at h
  exact ⟨h.1, h.2.1⟩
theorem M.opt_some {α : Type} {a : Option α} {v : α} {s s' : St} {l : Log} (h : (M.opt a).run s = some (v, s', l)) : a = some v ∧ s = s' := by
  cases a with
  | none => cases h
  | some a => obtain ⟨rfl, rfl⟩ := M.ret_some h; exact ⟨rfl, rfl⟩
theorem M.new_some {x : Blk} {k : Nat → M Value} {s s' : St} {v : Value} {l : Log} (h : (M.new x k).run s = some (v, s', l)) :
    ∃ l', (k s.next).run { s with get := upd s.get s.next (some x), next := s.next + 1 } = some (v, s', l') := by
  simp only [M.run] at h
  obtain ⟨⟨a, s1, l1⟩, h1, h2⟩ := Option.map_eq_some_iff.1 h
  cases h2
  exact ⟨_, h1⟩
theorem asPtr_some {p : Value} {b o : Nat} {s s' : St} {l : Log} (h : (asPtr p).run s = some ((b, o), s', l)) : p = .pointer (some ⟨b, o, none⟩) ∧ s = s' := by
  unfold asPtr at h
  split at h
  · obtain ⟨h1, h2⟩ := M.ret_some h
    cases h1
    exact ⟨rfl, h2⟩
  · cases h
theorem cellsAt_some {b o n : Nat} {s s' : St} {cs : List Value} {l : Log} (h : (cellsAt b o n).run s = some (cs, s', l)) :
    s = s' ∧ ∃ own e sz all, s.get b = some (.cells own e sz all) ∧ o + n ≤ all.length ∧ cs = (all.drop o).take n := by
  unfold cellsAt at h
  simp only [M.run] at h
  cases hb : s.get b with
  | none => rw [hb] at h; cases h
  | some x =>
    rw [hb] at h
    obtain ⟨⟨c, s1, l1⟩, h1, h2⟩ := Option.map_eq_some_iff.1 h
    cases h2
    cases x with
    | map => cases h1
    | cells own e sz all =>
      simp only [] at h1
      split at h1
      · rename_i hn
        obtain ⟨rfl, rfl⟩ := M.ret_some h1
        exact ⟨rfl, own, e, sz, all, rfl, hn, rfl⟩
      · cases h1
theorem putAt_some {b o : Nat} {vs : List Value} {s s' : St} {u : Unit} {l : Log} (h : (putAt b o vs).run s = some (u, s', l)) :
    ∃ e sz cs, s.get b = some (.cells true e sz cs) ∧ o + vs.length ≤ cs.length ∧ vs.all (·.oneCell') = true ∧ s' = { s with get := upd s.get b (some (.cells true e sz (cs.take o ++ vs ++ cs.drop (o + vs.length)))) } := by
  unfold putAt at h
  simp only [M.run] at h
  cases hb : s.get b with
  | none => rw [hb] at h; cases h
  | some x =>
    rw [hb] at h
    obtain ⟨⟨c, s1, l1⟩, h1, h2⟩ := Option.map_eq_some_iff.1 h
    cases h2
    cases x with
    | map => cases h1
    | cells own e sz cs =>
      cases own with
      | false => cases h1
      | true =>
        simp only [] at h1
        split at h1
        · rename_i hn
          simp only [M.run, hb] at h1
          split at h1
          · simp only [Option.map_some, Option.some.injEq, Prod.mk.injEq] at h1
            exact ⟨e, sz, cs, rfl, hn.1, hn.2, h1.2.1.symm⟩
          · cases h1
        · cases h1
theorem agg_run {P : Program} {t : TypeId} {b : Bool} (h : agg? P t = some b) (w : World) : (isAgg t).run P w = .ok b w := by
  unfold agg? at h
  unfold isAgg
  cases hu : P.underlying t with
  | none => rw [hu] at h; cases h
  | some d =>
    rw [hu] at h
    rw [Sem.run_bind, run_underlying hu]
    cases d <;> (cases h; rfl)
theorem sz_run {P : Program} {t : TypeId} {n : Nat} (h : sz? P t = some n) (w : World) : (sizeOf t).run P w = .ok n w := by
  unfold sz? at h
  obtain ⟨i, h1, rfl⟩ := Option.map_eq_some_iff.1 h
  simp [sizeOf, typeInfo, h1]
theorem zero_run {P : Program} {t : TypeId} {z : Value} (h : zero? P t = some z) (w : World) : (zeroValue t).run P w = .ok z w := by
  unfold zero? at h
  obtain ⟨z', h0, h3⟩ := Option.bind_eq_some_iff.1 h
  obtain ⟨i, h1, h2⟩ := Option.bind_eq_some_iff.1 h0
  split at h3
  · cases h3
    simp [zeroValue, typeInfo, h1, h2]
  · cases h3
theorem zero_plain {P : Program} {t : TypeId} {z : Value} (h : zero? P t = some z) : plain z = true := by
  unfold zero? at h
  obtain ⟨z', h0, h3⟩ := Option.bind_eq_some_iff.1 h
  split at h3
  · cases h3
    assumption
  · cases h3
theorem info_of {P : Program} {t : TypeId} {z : Value} {n m : Nat} (h : zero? P t = some z) (h1 : sz? P t = some n) (h2 : bytes? P t = some m) : ∃ i, P.info? t = some i ∧ i.zero = some z ∧ i.size = n ∧ i.bytes = m := by
  unfold zero? at h
  unfold sz? at h1
  unfold bytes? at h2
  obtain ⟨z', h0, h3⟩ := Option.bind_eq_some_iff.1 h
  obtain ⟨i, h4, h5⟩ := Option.bind_eq_some_iff.1 h0
  rw [h4] at h1 h2
  split at h3
  · cases h3
    cases h1
    cases h2
    exact ⟨i, h4, h5, rfl, rfl⟩
  · cases h3
section
variable {P : Program} {base : Nat} {φ : Ren} {s s' : St} {w : World} {v : Value} {l : Log}
theorem load_same {t : TypeId} {p p' : Value} (hH : HRel base φ s.get w) (hp : Rel φ p p') (h : (loadA P t p).run s = some (v, s', l)) : s = s' ∧ ∃ v', Rel φ v v' ∧ (Instr.loadAt t p').run P w = .ok v' w := by
  unfold loadA at h
  obtain ⟨⟨b, o⟩, s1, l1, l2, h1, h2⟩ := M.bind_some h
  obtain ⟨rfl, rfl⟩ := asPtr_some h1
  cases hp with
  | ptr hφ =>
    rename_i B O K
    simp only [] at h2
    split at h2
    · rename_i n ha hs
      obtain ⟨cs, s2, l3, l4, h3, h4⟩ := M.bind_some h2
      obtain ⟨rfl, own, e, sz, all, hb, hn, rfl⟩ := cellsAt_some h3
      obtain ⟨rfl, rfl⟩ := M.ret_some h4
      obtain ⟨l, hl, hlen, hc⟩ := read_cells hH hb hφ hn
      refine ⟨rfl, _, .agg hl, ?_⟩
      simp only [Instr.loadAt, Instr.sureAddr, loadVar, Sem.run_bind, Sem.run_pure, Result.andThen_ok, agg_run ha, if_true, sz_run hs, run_loadCells_of hlen hc]
    · rename_i n ha hs
      obtain ⟨cs, s2, l3, l4, h3, h4⟩ := M.bind_some h2
      obtain ⟨rfl, own, e, sz, all, hb, hn, rfl⟩ := cellsAt_some h3
      obtain ⟨hv, rfl⟩ := M.opt_some h4
      obtain ⟨l, hl, hlen, hc⟩ := read_cells hH hb hφ hn
      obtain ⟨v', h5, h6⟩ := hl.get 0 v hv
      refine ⟨rfl, _, h6, ?_⟩
      have h7 := hc 0 v' h5
      rw [Nat.add_zero] at h7
      simp only [Instr.loadAt, Instr.sureAddr, loadVar, Sem.run_bind, Sem.run_pure, Result.andThen_ok, agg_run ha, Bool.false_eq_true, if_false, run_load, h7]
    · cases h2
theorem load_sound {t : TypeId} {p p' : Value} (hH : HRel base φ s.get w) (hp : Rel φ p p') (h : (loadA P t p).run s = some (v, s', l)) : Out P base φ s s' w v (Instr.loadAt t p') := by
  obtain ⟨rfl, v', h1, h2⟩ := load_same (P := P) hH hp h
  exact Out.same hH h1 h2
/-- A block written anew. -/
theorem HRel.write (hH : HRel base φ s.get w) {b B O K : Nat} {e sz : Nat} {cs cs' : List Value} {arr arr' : Array Value} (hb : s.get b = some (.cells true e sz cs)) (hφ : φ b = some (B, O, K)) (ha : w.heap[B]? = some (.cells arr e (0, 0)))
    (hsz : arr'.size = arr.size) (hc : ∀ (i : Nat) (v : Value), cs'[i]? = some v → ∃ v', arr'[i]? = some v' ∧ Rel φ v v') :
    HRel base φ (upd s.get b (some (.cells true e sz cs'))) (w.setRow B arr') ∧ Below base w (w.setRow B arr') := by
  obtain ⟨B', O', K', h1, h2⟩ := hH.live b _ hb
  rw [hφ] at h1
  cases h1
  obtain ⟨rfl, hbase, arr0, h3, h4, h5⟩ := h2
  rw [ha] at h3
  cases h3
  refine ⟨⟨by rw [size_setRow]; exact hH.bs, fun c x hc' => ?_, fun c c' x x' B1 O1 K1 B2 O2 K2 hne h1 h2 h3 h4 h5 h6 => ?_⟩, rfl, rfl, rfl, by rw [size_setRow]; exact Nat.le_refl _, fun k hk => setRow_other w B k _ (by omega)⟩
  · unfold upd at hc'
    split at hc'
    · rename_i h
      subst h
      cases hc'
      exact ⟨B, 0, K, hφ, rfl, hbase, arr', setRow_heap w B arr arr' e _ ha, hsz.trans h4, hc⟩
    · rename_i hne
      obtain ⟨B1, O1, K1, h6, h7⟩ := hH.live c x hc'
      refine ⟨B1, O1, K1, h6, ?_⟩
      by_cases hr : x.real = true
      · have := hH.apart b c _ _ _ _ _ _ _ _ (Ne.symm hne) hb hc' hφ h6 rfl hr
        exact BRel.frame (setRow_other w B B1 _ (Ne.symm this)) h7
      · match x, h7, hr with
        | .cells true _ _ _, _, hr => simp [Blk.real] at hr
        | .cells false _ _ [], h7, _ => exact ⟨h7.1, fun i v hv => by simp at hv⟩
        | .cells false _ _ (_ :: _), _, hr => simp [Blk.real] at hr
        | .map _ _, h7, hr => simp [Blk.real] at hr
  · have key : ∀ c x, upd s.get b (some (.cells true e sz cs')) c = some x → ∃ y, s.get c = some y ∧ (x.own = true → y.own = true) ∧ (x.real = true → y.real = true) := fun c x h => by
      unfold upd at h
      split at h
      · rename_i hc
        subst hc
        cases h
        exact ⟨_, hb, fun _ => rfl, fun _ => rfl⟩
      · exact ⟨x, h, id, id⟩
    obtain ⟨y, k1, k2, _⟩ := key c x h1
    obtain ⟨y', k3, _, k4⟩ := key c' x' h2
    exact hH.apart c c' y y' _ _ _ _ _ _ hne k1 k3 h3 h4 (k2 h5) (k4 h6)
theorem put_sound {P : Program} {b o B O K : Nat} {vs vs' : List Value} {u : Unit} (hH : HRel base φ s.get w) (hφ : φ b = some (B, O, K)) (hv : RelL φ vs vs') (h : (putAt b o vs).run s = some (u, s', l)) :
    ∃ w', s'.next = s.next ∧ HRel base φ s'.get w' ∧ Below base w w' ∧ (storeCells ⟨B, O + o, none⟩ vs').run P w = .ok () w' := by
  obtain ⟨e, sz, cs, hb, hn, h1, rfl⟩ := putAt_some h
  obtain ⟨B', O', K', h2, h3⟩ := hH.live b _ hb
  rw [hφ] at h2
  cases h2
  obtain ⟨rfl, hbase, arr, ha, hsz, hc⟩ := h3
  have hlen : cs.length ≤ arr.size := by
    rcases Nat.lt_or_ge arr.size cs.length with h4 | h4
    · obtain ⟨v', h5, _⟩ := hc arr.size _ (List.getElem?_eq_getElem h4)
      simp at h5
    · exact h4
  have hst := run_storeCells_at P B (0 + o) e vs' 0 arr w ha (by rw [← hv.length]; omega) (hv.oneCell h1)
  refine ⟨_, rfl, (hH.write (arr' := (arr.toList.take (0 + o + 0) ++ vs' ++ arr.toList.drop (0 + o + 0 + vs'.length)).toArray) hb hφ ha ?_ ?_).1, (hH.write (cs' := cs.take o ++ vs ++ cs.drop (o + vs.length)) hb hφ ha ?_ ?_).2, hst⟩
  case refine_3 => simp only [List.size_toArray, List.length_append, List.length_take, List.length_drop, Array.length_toList, ← hv.length]; omega
  case refine_1 => simp only [List.size_toArray, List.length_append, List.length_take, List.length_drop, Array.length_toList, ← hv.length]; omega
  all_goals
    intro i v hi
    simp only [Nat.zero_add, Nat.add_zero, List.getElem?_toArray, ← hv.length]
    rw [List.append_assoc, List.getElem?_append] at hi
    rw [List.append_assoc, List.getElem?_append]
    have e1 : (cs.take o).length = o := by rw [List.length_take]; omega
    have e2 : (arr.toList.take o).length = o := by rw [List.length_take, Array.length_toList]; omega
    rw [e1] at hi
    rw [e2]
    split at hi
    · rename_i hlt
      rw [if_pos hlt]
      rw [List.getElem?_take_of_lt hlt] at hi ⊢
      obtain ⟨v', h6, h7⟩ := hc i v hi
      exact ⟨v', by simpa using h6, h7⟩
    · rename_i hge
      rw [if_neg hge]
      rw [List.getElem?_append] at hi ⊢
      rw [← hv.length]
      split at hi
      · rename_i hlt
        rw [if_pos hlt]
        exact hv.get _ v hi
      · rename_i hge2
        rw [if_neg hge2]
        rw [List.getElem?_drop] at hi ⊢
        obtain ⟨v', h6, h7⟩ := hc _ v hi
        exact ⟨v', by simpa using h6, h7⟩
end
end Go.Am
