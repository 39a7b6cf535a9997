/- The operations of the abstract machine are those of the model: the rest. No condition. -/
import Derived.Test.YthnmiojncfhhmaaAm3
set_option linter.unusedVariables false
set_option linter.unusedSimpArgs false
set_option linter.unusedSectionVars false
namespace Go.Am
open Go.RowKit (Below)
section
variable {P : Program} {base : Nat} {φ : Ren} {s s' : St} {w : World} {v : Value} {l : Log}
/-- The same, with a relation between results of any kind. -/
def OutU (P : Program) (base : Nat) (φ : Ren) (s s' : St) (w : World) (sem : Sem Unit) : Prop :=
  ∃ w', s'.next = s.next ∧ HRel base φ s'.get w' ∧ Below base w w' ∧ sem.run P w = .ok () w'
theorem store_sound {t : TypeId} {p p' x x' : Value} {u : Unit} (hH : HRel base φ s.get w) (hp : Rel φ p p') (hx : Rel φ x x') (h : (storeA P t p x).run s = some (u, s', l)) : OutU P base φ s s' w (Instr.storeAt t p' x') := by
  unfold storeA at h
  obtain ⟨⟨b, o⟩, s1, l1, l2, h1, h2⟩ := M.bind_some h
  obtain ⟨rfl, rfl⟩ := asPtr_some h1
  cases hp with
  | ptr hφ =>
    simp only [] at h2
    split at h2
    · rename_i n hs
      split at h2
      · rename_i hn
        obtain ⟨w', k1, k2, k3, k4⟩ := put_sound (P := P) hH hφ hx.cells h2
        refine ⟨w', k1, k2, k3, ?_⟩
        have hsz : ¬ x'.cells.size ≠ n := by
          rw [← Array.length_toList, ← hx.cells.length, hn]
          exact fun h => h rfl
        simp only [Instr.storeAt, Instr.sureAddr, storeVar, Sem.run_bind, Sem.run_pure, Result.andThen_ok, sz_run hs, if_neg hsz, k4, Sem.run_ite]
      · cases h2
    · cases h2
theorem new_out {e sz K : Nat} {cs : List Value} {arr : Array Value} {sem : Sem Value} (hH : HRel base φ s.get w) (hfr : ∀ b, s.next ≤ b → b < s'.next → φ b = none)
    (hs : arr.size = K * sz) (hc : ∀ (i : Nat) (v : Value), cs[i]? = some v → ∃ v', arr[i]? = some v' ∧ Rel φ v v') (w0 : World) (hw0 : w0.heap = w.heap) (hb : Below base w w0)
    (hs' : s' = { s with get := upd s.get s.next (some (.cells true e sz cs)), next := s.next + 1 })
    (hv : ∀ φ', φ' s.next = some (w.heap.size, 0, K) → ∃ v', Rel φ' v v' ∧ sem.run P w = .ok v' (w0.alloc (.cells arr e))) : Out P base φ s s' w v sem := by
  subst hs'
  have hn : φ s.next = none := hfr s.next (Nat.le_refl _) (Nat.lt_succ_self _)
  have hsize : w0.heap.size = w.heap.size := by rw [hw0]
  have hH0 : HRel base φ s.get w0 := ⟨by rw [hw0]; exact hH.bs, fun b x hb => by
    obtain ⟨B, O, K, h1, h2⟩ := hH.live b x hb
    exact ⟨B, O, K, h1, h2.frame (by rw [hw0])⟩, hH.apart⟩
  obtain ⟨h1, h2⟩ := hH0.new hn (e := e) hs hc
  obtain ⟨v', h3, h4⟩ := hv (upd φ s.next (some (w0.heap.size, 0, K))) (by simp [upd, hsize])
  exact ⟨_, v', _, h2, h1, hb.alloc hH0.bs _, h3, h4⟩
theorem newA_sound {t : TypeId} {cs cs' : List Value} (hH : HRel base φ s.get w) (hfr : ∀ b, s.next ≤ b → b < s'.next → φ b = none) (hr : RelL φ cs cs') (h : (newA t cs).run s = some (v, s', l)) :
    Out P base φ s s' w v (do pure (.pointer (some (← newRow t ⟨cs'⟩)))) := by
  unfold newA at h
  obtain ⟨l', h1⟩ := M.new_some h
  obtain ⟨rfl, rfl⟩ := M.ret_some h1
  refine new_out (K := 1) (arr := ⟨cs'⟩) hH hfr (by simp [hr.length]) (fun i v hv => ?_) w rfl (Below.refl _ _) rfl fun φ' hφ' => ⟨.pointer (some ⟨w.heap.size, 0, none⟩), ?_, ?_⟩
  · obtain ⟨v', h2, h3⟩ := hr.get i v hv
    exact ⟨v', by simpa using h2, h3⟩
  · exact .ptr (o := 0) hφ'
  · simp only [newRow, Sem.run_bind, run_newObj, Result.andThen_ok, Sem.run_pure, World.alloc_eq]
theorem alloc_sound {t : TypeId} {z : Value} (hH : HRel base φ s.get w) (hfr : ∀ b, s.next ≤ b → b < s'.next → φ b = none) (hz : zero? P t = some z) (h : (newA t z.cells.toList).run s = some (v, s', l)) : Out P base φ s s' w v (Instr.alloc t true (.tuple #[])) := by
  obtain ⟨φ', v', w', h1, h2, h3, h4, h5⟩ := newA_sound (P := P) hH hfr (plain_rel (zero_plain hz)).cells h
  refine ⟨φ', v', w', h1, h2, h3, h4, ?_⟩
  simp only [Instr.alloc, newVar, Sem.run_bind, zero_run hz, Result.andThen_ok]
  simpa using h5
theorem box_sound {t : TypeId} {x x' : Value} (hH : HRel base φ s.get w) (hfr : ∀ b, s.next ≤ b → b < s'.next → φ b = none) (hx : Rel φ x x') (h : (newA t x.cells.toList).run s = some (v, s', l)) : Out P base φ s s' w v (Instr.box t x') := by
  obtain ⟨φ', v', w', h1, h2, h3, h4, h5⟩ := newA_sound (P := P) hH hfr hx.cells h
  refine ⟨φ', v', w', h1, h2, h3, h4, ?_⟩
  simpa [Instr.box, newVar] using h5
theorem fieldAddr_sound {t : TypeId} {x x' : Value} {f : Nat} (hH : HRel base φ s.get w) (hx : Rel φ x x') (h : (fieldAddrA P t x f).run s = some (v, s', l)) : Out P base φ s s' w v (Instr.fieldAt t x' f) := by
  unfold fieldAddrA at h
  split at h
  · rename_i fs hu
    split at h
    · rename_i fd hf
      split at h
      · rename_i n hs
        split at h
        · cases h
        · rename_i hn
          obtain ⟨⟨b, o⟩, s1, l1, l2, h1, h2⟩ := M.bind_some h
          obtain ⟨rfl, rfl⟩ := asPtr_some h1
          obtain ⟨rfl, rfl⟩ := M.ret_some h2
          cases hx with
          | ptr hφ =>
            refine Out.same hH (.ptr hφ) ?_
            simp only [Instr.fieldAt, Sem.run_bind, run_underlying hu, Result.andThen_ok, hf, Instr.sureAddr, Sem.run_pure, fieldPlace, sz_run hs, if_neg hn, add_addr, Nat.add_assoc, Sem.run_ite]
      · cases h
    · cases h
  · cases h
theorem part_sound {t : TypeId} {cs cs' : List Value} {o : Nat} (hH : HRel base φ s.get w) (hr : RelL φ cs cs') (h : (mkPart P t cs o).run s = some (v, s', l)) : Out P base φ s s' w v (part t ⟨cs'⟩ o) := by
  unfold mkPart at h
  split at h
  · rename_i n ha hs
    obtain ⟨rfl, rfl⟩ := M.ret_some h
    refine Out.same hH (.agg ((hr.drop o).take n)) ?_
    simp only [part, Sem.run_bind, agg_run ha, Result.andThen_ok, if_true, sz_run hs, Sem.run_pure, Sem.run_ite]
    congr 2
    apply Array.ext'
    simp [List.extract_eq_take_drop]
  · rename_i n ha hs
    obtain ⟨hv, rfl⟩ := M.opt_some h
    obtain ⟨v', h1, h2⟩ := hr.get o v hv
    refine Out.same hH h2 ?_
    have h1' : (⟨cs'⟩ : Array Value)[o]? = some v' := by simpa using h1
    simp only [part, Sem.run_bind, agg_run ha, Result.andThen_ok, Bool.false_eq_true, if_false, h1', Sem.run_pure, Sem.run_ite]
  · cases h
theorem field_sound {t : TypeId} {x x' : Value} {f : Nat} (hH : HRel base φ s.get w) (hx : Rel φ x x') (h : (fieldA P t x f).run s = some (v, s', l)) : Out P base φ s s' w v (Instr.field t x' f) := by
  unfold fieldA at h
  split at h
  · rename_i fs cs hu
    split at h
    · rename_i fd hf
      cases hx with
      | agg hr =>
        obtain ⟨φ', v', w', h1, h2, h3, h4, h5⟩ := part_sound (P := P) hH hr h
        refine ⟨φ', v', w', h1, h2, h3, h4, ?_⟩
        simp only [Instr.field, Sem.run_bind, run_underlying hu, Result.andThen_ok, hf, asAgg, Sem.run_pure, h5]
    · cases h
  · cases h
theorem intOf_rel {x x' : Value} {i : Int} (h : intOf? x = some i) (hx : Rel φ x x') : ∃ k, x' = .int k i := by
  cases hx <;> first | (cases h; exact ⟨_, rfl⟩) | cases h
theorem indexAddr_sound {t : TypeId} {x x' ix ix' : Value} (hH : HRel base φ s.get w) (hx : Rel φ x x') (hi : Rel φ ix ix') (h : (indexAddrA P t x ix).run s = some (v, s', l)) : Out P base φ s s' w v (Instr.indexAt t x' ix') := by
  unfold indexAddrA at h
  split at h
  · rename_i e b o n c i hu hio
    obtain ⟨k, rfl⟩ := intOf_rel hio hi
    split at h
    · rename_i z hs
      split at h
      · rename_i hb
        obtain ⟨rfl, rfl⟩ := M.ret_some h
        cases hx with
        | slice hφ hni hp =>
          rename_i B O K p
          have hp' : p = O + o := hp.resolve_right (by omega)
          subst hp'
          refine Out.same hH (.ptr hφ) ?_
          simp only [Instr.indexAt, asIntOf, Sem.run_bind, Sem.run_pure, Result.andThen_ok, run_underlying hu, if_pos hb, sz_run hs, add_addr, Nat.add_assoc, Sem.run_ite]
      · cases h
    · cases h
  · rename_i n e b o i hu hio
    obtain ⟨k, rfl⟩ := intOf_rel hio hi
    split at h
    · rename_i z hs
      split at h
      · rename_i hb
        obtain ⟨rfl, rfl⟩ := M.ret_some h
        cases hx with
        | ptr hφ =>
          refine Out.same hH (.ptr hφ) ?_
          simp only [Instr.indexAt, asIntOf, Sem.run_bind, Sem.run_pure, Result.andThen_ok, run_underlying hu, if_pos hb, sz_run hs, add_addr, Nat.add_assoc, Instr.sureAddr, Sem.run_ite]
      · cases h
    · cases h
  · cases h
theorem index_sound {t : TypeId} {x x' ix ix' : Value} (hH : HRel base φ s.get w) (hx : Rel φ x x') (hi : Rel φ ix ix') (h : (indexA P t x ix).run s = some (v, s', l)) : Out P base φ s s' w v (Instr.index t x' ix') := by
  unfold indexA at h
  split at h
  · rename_i n e cs i hu hio
    obtain ⟨k, rfl⟩ := intOf_rel hio hi
    split at h
    · rename_i z hs
      split at h
      · rename_i hb
        cases hx with
        | agg hr =>
          obtain ⟨φ', v', w', h1, h2, h3, h4, h5⟩ := part_sound (P := P) hH hr h
          refine ⟨φ', v', w', h1, h2, h3, h4, ?_⟩
          simp only [Instr.index, asIntOf, Sem.run_bind, Sem.run_pure, Result.andThen_ok, run_underlying hu, if_pos hb, sz_run hs, h5, Sem.run_ite]
      · cases h
    · cases h
  · cases h
theorem pick_sound {x x' : Value} {b : Bool} (h : boolOf? x = some b) (hx : Rel φ x x') : x' = .bool b := by
  cases hx <;> first | (cases h; rfl) | cases h
theorem isNil_rel {x x' : Value} (hx : Rel φ x x') : isNil x' = isNil x := by cases hx <;> rfl
end
end Go.Am
