/- The operations of the abstract machine are those of the model: composite values, appends, copies, comparisons with nil. No condition. -/
import Derived.Test.YthnmiojncfhhmaaAm5
set_option linter.unusedVariables false
set_option linter.unusedSimpArgs false
set_option linter.unusedSectionVars false
namespace Go.Am
open Go.RowKit (Below)
theorem fold_rel {φ : Ren} (off : Nat) : ∀ {L L' : List Value}, RelL φ L L' → ∀ (k : Nat) {A A' : Array Value}, RelL φ A.toList A'.toList →
    RelL φ ((L.zipIdx k).foldl (fun cs (c, j) => cs.setIfInBounds (off + j) c) A).toList ((L'.zipIdx k).foldl (fun cs (c, j) => cs.setIfInBounds (off + j) c) A').toList
  | _, _, .nil, k, A, A', h => h
  | _, _, .cons hv t, k, A, A', h => by
    simp only [List.zipIdx_cons, List.foldl_cons]
    exact fold_rel off t (k + 1) (by
      simp only [Array.toList_setIfInBounds]
      exact RelL.set hv h _)
theorem fill_rel {φ : Ren} {α : Type} (f g : α → Value) (place : Nat → Option (Nat × Nat)) : ∀ (ps : List (Nat × α)) (_ : ∀ p ∈ ps, Rel φ (f p.2) (g p.2)) {A A' cs : Array Value}, RelL φ A.toList A'.toList →
    Instr.fill place A (ps.map fun p => (p.1, f p.2)) = some cs → ∃ cs', Instr.fill place A' (ps.map fun p => (p.1, g p.2)) = some cs' ∧ RelL φ cs.toList cs'.toList
  | [], _, A, A', cs, h, hf => by
    simp only [List.map_nil, Instr.fill, Option.some.injEq] at hf
    subst hf
    exact ⟨A', rfl, h⟩
  | (i, x) :: ps, hfg, A, A', cs, h, hf => by
    simp only [List.map_cons, Instr.fill] at hf ⊢
    cases hp : place i with
    | none => rw [hp] at hf; cases hf
    | some q =>
      obtain ⟨off, size⟩ := q
      rw [hp] at hf
      simp only [] at hf ⊢
      have hc := (hfg (i, x) (List.mem_cons_self ..)).cells
      have e1 : (g x).cells.size = (f x).cells.size := by rw [← Array.length_toList, ← Array.length_toList, hc.length]
      have e2 : A'.size = A.size := by rw [← Array.length_toList, ← Array.length_toList, h.length]
      rw [e1, e2]
      split at hf
      · cases hf
      · rename_i hn
        rw [if_neg hn]
        refine fill_rel f g place ps (fun p hp => hfg p (List.mem_cons_of_mem _ hp)) ?_ hf
        rw [← Array.foldl_toList, ← Array.foldl_toList, Array.toList_zipIdx, Array.toList_zipIdx]
        exact fold_rel off hc 0 h
theorem buildSlice_run {P : Program} {w : World} {t e : TypeId} {n sz : Nat} {z : Value} {cs' : Array Value} {parts : List (Nat × Value)} (hu : P.underlying t = some (.slice e)) (hs : sz? P e = some sz) (hz : zero? P e = some z) (hb : n * sz ≤ 16777216)
    (h2 : Instr.fill (fun j => some (j * sz, sz)) ((Array.range (n * sz)).map ((if n * sz = 0 then #[] else z.cells)[· % (if n * sz = 0 then #[] else z.cells).size]!)) parts = some cs') :
    (Instr.buildSlice t n parts.toArray).run P w = .ok (.slice (some ⟨w.heap.size, 0, none⟩) n n) (w.alloc (.cells cs' e)) := by
  have hbig : ¬ (n * sz > 2 ^ 24) := by
    have : (2 : Nat) ^ 24 = 16777216 := by decide
    omega
  unfold Instr.buildSlice
  rw [Sem.run_bind, run_underlying hu]
  simp only [Result.andThen_ok]
  rw [Sem.run_bind, sz_run hs]
  simp only [Result.andThen_ok]
  rw [if_neg hbig]
  by_cases h0 : n * sz = 0
  · simp only [if_pos h0] at h2
    simp only [if_pos h0, Sem.run_pure, Result.andThen_ok, Sem.run_bind, h2, newRow, run_newObj, World.alloc_eq]
  · simp only [if_neg h0] at h2
    simp only [if_neg h0, Sem.run_pure, Result.andThen_ok, Sem.run_bind, zero_run hz, h2, newRow, run_newObj, World.alloc_eq]
section
variable {P : Program} {base : Nat} {φ : Ren} {s s' : St} {w : World} {v : Value} {l : Log}
theorem buildSlice_sound {t : TypeId} {n : Nat} {ps : List (Nat × Operand)} {f g : Operand → Value} (hfg : ∀ p ∈ ps, Rel φ (f p.2) (g p.2)) (hH : HRel base φ s.get w) (hfr : ∀ b, s.next ≤ b → b < s'.next → φ b = none)
    (h : (buildSliceA P t n (ps.map fun p => (p.1, f p.2))).run s = some (v, s', l)) : Out P base φ s s' w v (Instr.buildSlice t n (ps.map fun p => (p.1, g p.2)).toArray) := by
  unfold buildSliceA at h
  split at h
  · rename_i e hu
    split at h
    · rename_i z sz hz hs
      split at h
      · rename_i hb
        obtain ⟨b1, b2⟩ := hb
        split at h
        · rename_i cs hf
          obtain ⟨l', h1⟩ := M.new_some h
          obtain ⟨rfl, rfl⟩ := M.ret_some h1
          have hA : RelL φ (⟨reps n z.cells.toList⟩ : Array Value).toList ((Array.range (n * sz)).map ((if n * sz = 0 then #[] else z.cells)[· % (if n * sz = 0 then #[] else z.cells).size]!)).toList := by
            refine RelL.of_get (by simp [reps_length b2]) fun j u hj => ?_
            have hj' : j < n * sz := by
              have := (List.getElem?_eq_some_iff.1 hj).1
              rwa [reps_length b2] at this
            rw [if_neg (by omega)]
            refine ⟨u, by rw [Array.getElem?_toList]; exact zeros_get b2 n (n * sz) (Nat.le_refl _) j u hj, ?_⟩
            have hj2 : (reps n z.cells.toList)[j]? = some u := hj
            rw [reps_get b2 n j hj'] at hj2
            obtain ⟨u', h2, h3⟩ := (plain_rel (φ := φ) (zero_plain hz)).cells.get _ _ hj2
            rw [hj2] at h2
            cases h2
            exact h3
          obtain ⟨cs', h2, h3⟩ := fill_rel f g _ ps hfg hA hf
          have hsize : cs.toList.length = n * sz := by
            have key : ∀ (ps : List (Nat × Value)) (A : Array Value) {cs : Array Value}, Instr.fill (fun j => some (j * sz, sz)) A ps = some cs → cs.size = A.size := by
              intro ps
              induction ps with
              | nil => intro A cs h; simp only [Instr.fill, Option.some.injEq] at h; rw [h]
              | cons p ps ih =>
                intro A cs h
                simp only [Instr.fill] at h
                split at h
                · cases h
                · rw [ih _ h]
                  have k2 : ∀ (L : List (Value × Nat)) (A : Array Value), (L.foldl (fun cs (x : Value × Nat) => cs.setIfInBounds (p.1 * sz + x.2) x.1) A).size = A.size := by
                    intro L
                    induction L with
                    | nil => intro A; rfl
                    | cons y L ih2 => intro A; rw [List.foldl_cons, ih2]; simp
                  rw [← Array.foldl_toList]
                  exact k2 _ _
            rw [Array.length_toList, key _ _ hf]
            simp [reps_length b2]
          have hrun := buildSlice_run (w := w) hu hs hz b1 h2
          generalize (Instr.buildSlice t n (ps.map fun p => (p.1, g p.2)).toArray) = sem at hrun ⊢
          refine new_out (K := n) (e := e) (sz := sz) (cs := cs.toList) (arr := cs') hH hfr ?_ (fun j u hj => ?_) w rfl (Below.refl _ _) rfl fun φ' hφ' => ⟨.slice (some ⟨w.heap.size, 0, none⟩) n n, ?_, hrun⟩
          · rw [← Array.length_toList, ← h3.length, hsize]
          · obtain ⟨u', h4, h5⟩ := h3.get j u hj
            exact ⟨u', by simpa using h4, h5⟩
          · exact Rel.slice (i := 0) (o := 0) (p := 0) hφ' (Nat.le_refl _) (.inl rfl)
        · cases h
      · cases h
    · cases h
  · cases h
theorem mapM_run {fs : List Field} : ∀ {pl : List (Nat × Nat)}, fs.mapM (fun f => (sz? P f.type).map fun n => (f.offset, n)) = some pl → ∀ w : World, (fs.mapM (fun f => do pure (f.offset, ← sizeOf f.type) : Field → Sem (Nat × Nat))).run P w = .ok pl w := by
  induction fs with
  | nil => intro pl h w; simp at h; subst h; rfl
  | cons f fs ih =>
    intro pl h w
    rw [List.mapM_cons] at h
    obtain ⟨q, h1, h2⟩ := Option.bind_eq_some_iff.1 h
    obtain ⟨ql, h3, h4⟩ := Option.bind_eq_some_iff.1 h2
    obtain ⟨n, h5, rfl⟩ := Option.map_eq_some_iff.1 h1
    cases h4
    rw [List.mapM_cons]
    simp only [Sem.run_bind, sz_run h5, Result.andThen_ok, Sem.run_pure, ih h3 w]
theorem build_sound {t : TypeId} {ps : List (Nat × Operand)} {f g : Operand → Value} (hfg : ∀ p ∈ ps, Rel φ (f p.2) (g p.2)) (hH : HRel base φ s.get w)
    (h : (buildA P t (ps.map fun p => (p.1, f p.2))).run s = some (v, s', l)) : Out P base φ s s' w v (Instr.build t (ps.map fun p => (p.1, g p.2)).toArray) := by
  unfold buildA at h
  split at h
  · rename_i fs z hu hz
    split at h
    · rename_i pl hpl
      split at h
      · rename_i cs hf
        obtain ⟨rfl, rfl⟩ := M.ret_some h
        have hcells := (plain_rel (φ := φ) (zero_plain hz)).cells
        obtain ⟨cs', h2, h3⟩ := fill_rel f g _ ps hfg hcells hf
        refine Out.same hH (v' := .agg cs') (.agg h3) ?_
        have hm : (fs.mapM (fun f => do pure (f.offset, ← sizeOf f.type) : Field → Sem (Nat × Nat))).run P w = .ok pl.toArray w := by
          rw [Array.mapM_eq_mapM_toList, Sem.run_map, mapM_run hpl w]
          rfl
        have h2' : Instr.fill (fun x => pl.toArray[x]?) z.cells (ps.map fun p => (p.1, g p.2)) = some cs' := by simpa using h2
        simp only [Instr.build, Sem.run_bind, zero_run hz, Result.andThen_ok, run_underlying hu, hm, h2', Sem.run_pure]
      · cases h
    · cases h
  · rename_i n e z hu hz
    split at h
    · rename_i sz hs
      split at h
      · rename_i cs hf
        obtain ⟨rfl, rfl⟩ := M.ret_some h
        have hcells := (plain_rel (φ := φ) (zero_plain hz)).cells
        obtain ⟨cs', h2, h3⟩ := fill_rel f g _ ps hfg hcells hf
        refine Out.same hH (v' := .agg cs') (.agg h3) ?_
        simp only [Instr.build, Sem.run_bind, zero_run hz, Result.andThen_ok, run_underlying hu, sz_run hs, h2, Sem.run_pure]
      · cases h
    · cases h
  · cases h
/-- A block given up. -/
theorem HRel.drop {G : Nat → Option Blk} (hH : HRel base φ G w) (b : Nat) : HRel base φ (upd G b none) w := by
  have key : ∀ c x, upd G b none c = some x → G c = some x := fun c x h => by
    unfold upd at h
    split at h
    · cases h
    · exact h
  exact ⟨hH.bs, fun c x h => hH.live c x (key c x h), fun c c' x x' _ _ _ _ _ _ hne h h' => hH.apart c c' x x' _ _ _ _ _ _ hne (key c x h) (key c' x' h')⟩
/-- A block goes on under a new name, in the same row. -/
theorem HRel.rename (hH : HRel base φ s.get w) {b n B K e sz : Nat} {cs cs' : List Value} {arr arr' : Array Value} (hb : s.get b = some (.cells true e sz cs)) (hφ : φ b = some (B, 0, K)) (hn : φ n = none) (ha : w.heap[B]? = some (.cells arr e (0, 0)))
    (hsz : arr'.size = arr.size) (hc : ∀ (i : Nat) (v : Value), cs'[i]? = some v → ∃ v', arr'[i]? = some v' ∧ Rel φ v v') :
    HRel base (upd φ n (some (B, 0, K))) (upd (upd s.get b none) n (some (.cells true e sz cs'))) (w.setRow B arr') ∧ Ext φ (upd φ n (some (B, 0, K))) n (n + 1) ∧ Below base w (w.setRow B arr') := by
  obtain ⟨h1, h2⟩ := hH.write (cs' := cs') hb hφ ha hsz hc
  have hmono : ∀ c x, φ c = some x → upd φ n (some (B, 0, K)) c = some x := fun c x h => by
    unfold upd
    split
    · rename_i hb
      subst hb
      rw [hn] at h
      cases h
    · exact h
  have hbn : b ≠ n := fun h => by
    subst h
    rw [hφ] at hn
    cases hn
  obtain ⟨B', O', K', h3, h4⟩ := hH.live b _ hb
  rw [hφ] at h3
  cases h3
  have hold : ∀ c x, c ≠ n → upd (upd s.get b none) n (some (.cells true e sz cs')) c = some x → c ≠ b ∧ s.get c = some x ∧ upd s.get b (some (.cells true e sz cs')) c = some x := fun c x hc h => by
    unfold upd at h ⊢
    rw [if_neg hc] at h
    by_cases hcb : c = b
    · rw [if_pos hcb] at h
      cases h
    · rw [if_neg hcb] at h ⊢
      exact ⟨hcb, h, h⟩
  have holdφ : ∀ c, c ≠ n → upd φ n (some (B, 0, K)) c = φ c := fun c hc => by
    unfold upd
    rw [if_neg hc]
  have hnew : ∀ x, upd (upd s.get b none) n (some (.cells true e sz cs')) n = some x → x = .cells true e sz cs' := fun x h => by
    unfold upd at h
    rw [if_pos rfl] at h
    exact (Option.some.inj h).symm
  have hnewφ : upd φ n (some (B, 0, K)) n = some (B, 0, K) := by simp [upd]
  have hself : upd s.get b (some (.cells true e sz cs')) b = some (.cells true e sz cs') := by simp [upd]
  refine ⟨⟨h1.bs, fun c x hx => ?_, fun c c' x x' B1 O1 K1 B2 O2 K2 hne hx hx' k1 k2 ho hr => ?_⟩, ⟨hmono, fun c hc => ?_⟩, h2⟩
  · by_cases hcn : c = n
    · subst hcn
      obtain rfl := hnew x hx
      obtain ⟨_, _, _, h5, h6⟩ := h1.live b _ hself
      rw [hφ] at h5
      cases h5
      exact ⟨B, 0, K, hnewφ, h6.mono hmono⟩
    · obtain ⟨_, _, h5⟩ := hold c x hcn hx
      obtain ⟨B3, O3, K3, h6, h7⟩ := h1.live c x h5
      exact ⟨B3, O3, K3, hmono _ _ h6, h7.mono hmono⟩
  · by_cases hcn : c = n
    · subst hcn
      obtain rfl := hnew x hx
      rw [hnewφ] at k1
      cases k1
      obtain ⟨h5, h6, h7⟩ := hold c' x' (Ne.symm hne) hx'
      rw [holdφ c' (Ne.symm hne)] at k2
      exact h1.apart b c' _ _ _ _ _ _ _ _ (Ne.symm h5) hself h7 hφ k2 rfl hr
    · obtain ⟨h5, h6, h7⟩ := hold c x hcn hx
      rw [holdφ c hcn] at k1
      by_cases hcn' : c' = n
      · subst hcn'
        obtain rfl := hnew x' hx'
        rw [hnewφ] at k2
        cases k2
        exact h1.apart c b _ _ _ _ _ _ _ _ h5 h7 hself k1 hφ ho rfl
      · obtain ⟨h8, h9, h10⟩ := hold c' x' hcn' hx'
        rw [holdφ c' hcn'] at k2
        exact h1.apart c c' _ _ _ _ _ _ _ _ hne h7 h10 k1 k2 ho hr
  · unfold upd at hc
    split at hc
    · omega
    · exact absurd rfl hc
end
end Go.Am
