/- The operations of the abstract machine are those of the model: slices, appends, what has no address. No condition. -/
import Derived.Test.YthnmiojncfhhmaaAm4
set_option linter.unusedVariables false
set_option linter.unusedSimpArgs false
set_option linter.unusedSectionVars false
namespace Go.Am
open Go.RowKit (Below)
theorem bound_run {P : Program} {k : IntKind} {i : Int} {y : Nat} {c : BoundsCode} {w : World} (h0 : 0 ≤ i) (h1 : i ≤ (y : Int)) : (Instr.sliceBound (.int k i) y c).run P w = .ok i.toNat w := by
  simp only [Instr.sliceBound, asIntOf, Sem.run_bind, Sem.run_pure, Result.andThen_ok, if_pos (And.intro h0 h1), Sem.run_ite]
def ORel (φ : Ren) : Option Value → Option Value → Prop
  | none, none => True
  | some u, some u' => Rel φ u u'
  | _, _ => False
theorem bounds_run {P : Program} {φ : Ren} {w : World} {lo lo' hi hi' : Option Value} {lv hv : Int} {n c : Nat} (hl : bndI lo 0 = some lv) (hh : bndI hi (n : Int) = some hv) (h : ORel φ lo lo') (h' : ORel φ hi hi') (b0 : 0 ≤ lv) (b1 : lv ≤ hv) (b2 : hv ≤ (n : Int)) (hc : n ≤ c) :
    (Instr.sliceBounds true n c lo' hi' none).run P w = .ok (lv.toNat, hv.toNat, c) w := by
  have kl : ∀ {k : IntKind} {y : Nat} {d : BoundsCode}, (y : Int) = hv → (Instr.sliceBound (.int k lv) y d).run P w = .ok lv.toNat w := fun hy => bound_run b0 (by omega)
  have kh : ∀ {k : IntKind} {d : BoundsCode}, (Instr.sliceBound (.int k hv) c d).run P w = .ok hv.toNat w := bound_run (by omega) (by omega)
  match lo, lo', hi, hi', h, h' with
  | none, none, none, none, _, _ =>
    simp only [bndI, Option.some.injEq] at hl hh
    subst hl
    subst hh
    simp only [Instr.sliceBounds, Sem.run_bind, Sem.run_pure, Result.andThen_ok, Int.toNat_natCast, Int.toNat_zero]
  | some u, some u', none, none, h, _ =>
    obtain ⟨k, rfl⟩ := intOf_rel hl h
    simp only [bndI, Option.some.injEq] at hh
    subst hh
    simp only [Instr.sliceBounds, Sem.run_bind, Sem.run_pure, Result.andThen_ok, Int.toNat_natCast, kl rfl]
  | none, none, some u, some u', _, h' =>
    obtain ⟨k, rfl⟩ := intOf_rel hh h'
    simp only [bndI, Option.some.injEq] at hl
    subst hl
    simp only [Instr.sliceBounds, Sem.run_bind, Sem.run_pure, Result.andThen_ok, kh, if_true, Int.toNat_zero]
  | some t, some t', some u, some u', h, h' =>
    obtain ⟨k, rfl⟩ := intOf_rel hl h
    obtain ⟨k', rfl⟩ := intOf_rel hh h'
    simp only [Instr.sliceBounds, Sem.run_bind, Sem.run_pure, Result.andThen_ok, kh, if_true, kl (Int.toNat_of_nonneg (Int.le_trans b0 b1))]
section
variable {P : Program} {base : Nat} {φ : Ren} {s s' : St} {w : World} {v : Value} {l : Log}
theorem slice_sound {t : TypeId} {x x' : Value} {lo hi lo' hi' mx mx' : Option Value} (hH : HRel base φ s.get w) (hx : Rel φ x x') (hfr : ∀ b, s.next ≤ b → b < s'.next → φ b = none) (hlo : ORel φ lo lo') (hhi : ORel φ hi hi') (hmx : ORel φ mx mx')
    (h : (sliceA P t x lo hi mx).run s = some (v, s', l)) : Out P base φ s s' w v (Instr.sliceAt t x' lo' hi' mx') := by
  unfold sliceA at h
  split at h
  · rename_i e a n i m hu
    split at h
    · rename_i z q lv hv hs hq hl hh
      split at h
      · rename_i hb
        obtain ⟨rfl, rfl, rfl⟩ := hb
        have hm' : ∃ m', mx' = some m' ∧ Rel φ m m' := by
          cases mx' with
          | none => exact hmx.elim
          | some m' => exact ⟨m', rfl, hmx⟩
        obtain ⟨m', rfl, hmr⟩ := hm'
        obtain ⟨k, rfl⟩ := intOf_rel hq hmr
        have hbd : ∀ nn c : Nat, (Instr.sliceBounds true nn c lo' hi' (some (.int k 0))).run P w = .ok (0, 0, 0) w := fun nn c => by
          have z : ∀ (k : IntKind) (y : Nat) (d : BoundsCode), (Instr.sliceBound (.int k 0) y d).run P w = .ok 0 w := fun k y d => bound_run (Int.le_refl _) (by omega)
          match hi, hi', hhi with
          | none, none, _ => simp [bndI] at hh
          | some u, some u', h2 =>
            obtain ⟨k2, rfl⟩ := intOf_rel hh h2
            match lo, lo', hlo with
            | none, none, _ => simp only [Instr.sliceBounds, Sem.run_bind, z, Result.andThen_ok, Sem.run_pure, Option.isSome_some, if_true]
            | some t, some t', h3 =>
              obtain ⟨k3, rfl⟩ := intOf_rel hl h3
              simp only [Instr.sliceBounds, Sem.run_bind, z, Result.andThen_ok, Sem.run_pure, Option.isSome_some, if_true]
        have hrun : ∀ (ao : Option Addr) (nn cc : Nat), (Instr.sliceAt t (.slice ao nn cc) lo' hi' (some (.int k 0))).run P w = .ok (.slice ao 0 0) w := fun ao nn cc => by
          simp only [Instr.sliceAt, Instr.slice, Sem.run_bind, run_underlying hu, Result.andThen_ok, hbd, sz_run hs, Sem.run_pure, if_true, Nat.sub_zero]
        split at h
        · obtain ⟨l', h1⟩ := M.new_some h
          obtain ⟨rfl, rfl⟩ := M.ret_some h1
          cases hx with
          | slice hφ hni hp =>
            rename_i B O K p
            have hn : φ s.next = none := hfr s.next (Nat.le_refl _) (Nat.lt_succ_self _)
            obtain ⟨h2, h3⟩ := hH.newNone hn e B p
            exact ⟨_, _, w, h3, h2, Below.refl _ _, Rel.slice (o := 0) (K := 0) (i := 0) (p := p) (by simp [upd]) (Nat.le_refl _) (.inl rfl), hrun _ _ _⟩
        · split at h
          · rename_i hz
            obtain ⟨rfl, rfl⟩ := hz
            obtain ⟨rfl, rfl⟩ := M.ret_some h
            cases hx with
            | nilSlice => exact Out.same hH .nilSlice (hrun _ _ _)
          · cases h
        · cases h
      · cases h
    · cases h
  · rename_i e a n i hu
    split at h
    · rename_i z lv hv hs hl hh
      split at h
      · rename_i hb
        obtain ⟨b0, b1, b2⟩ := hb
        have hmx0 : mx' = none := by
          cases mx' with
          | none => rfl
          | some _ => exact hmx.elim
        rw [hmx0]
        have e3 : ∀ (c : Nat), n ≤ c → (Instr.sliceBounds true n c lo' hi' none).run P w = .ok (lv.toNat, hv.toNat, c) w := fun c hc => bounds_run hl hh hlo hhi b0 b1 b2 hc
        split at h
        · rename_i b o
          obtain ⟨rfl, rfl⟩ := M.ret_some h
          cases hx with
          | slice hφ hni hp =>
            rename_i B O K p
            have hrun : (Instr.sliceAt t (.slice (some ⟨B, p, none⟩) n (K - i)) lo' hi' none).run P w = .ok (.slice (if K - i = lv.toNat then some ⟨B, p, none⟩ else (some ⟨B, p, none⟩ : Option Addr).map (·.add (lv.toNat * z))) (hv.toNat - lv.toNat) (K - i - lv.toNat)) w := by
              simp only [Instr.sliceAt, Instr.slice, Sem.run_bind, run_underlying hu, Result.andThen_ok, e3 (K - i) (by omega), sz_run hs, Sem.run_pure]
            have hcap : K - i - lv.toNat = K - (i + lv.toNat) := by omega
            rw [hcap] at hrun
            by_cases hm : K - i = lv.toNat
            · rw [if_pos hm] at hrun
              exact Out.same hH (.slice hφ (by omega) (.inr (by omega))) hrun
            · rw [if_neg hm, Option.map_some, add_addr] at hrun
              exact Out.same hH (.slice hφ (by omega) (.inl (by have := hp.resolve_right (by omega); omega))) hrun
        · split at h
          · rename_i hz
            obtain ⟨rfl, rfl⟩ := hz
            obtain ⟨rfl, rfl⟩ := M.ret_some h
            cases hx with
            | nilSlice =>
              have h1 : lv.toNat = 0 := by omega
              have h2 : hv.toNat = 0 := by omega
              refine Out.same hH .nilSlice ?_
              simp only [Instr.sliceAt, Instr.slice, Sem.run_bind, run_underlying hu, Result.andThen_ok, e3 0 (by omega), sz_run hs, Sem.run_pure, h1, h2, if_true, Nat.sub_zero]
          · cases h
        · cases h
      · cases h
    · cases h
  · cases h
theorem reps_get {k : Nat} {zl : List Value} (hk : zl.length = k) : ∀ (n i : Nat), i < n * k → (reps n zl)[i]? = zl[i % k]?
  | 0, i, h => by simp at h
  | n + 1, i, h => by
    have e : reps (n + 1) zl = zl ++ reps n zl := by simp [reps, List.replicate_succ]
    rw [e, List.getElem?_append, hk]
    split
    · rename_i hi
      rw [Nat.mod_eq_of_lt hi]
    · rename_i hi
      rw [reps_get hk n (i - k) (by rw [Nat.add_mul] at h; omega)]
      congr 1
      exact (Nat.mod_eq_sub_mod (by omega)).symm
theorem reps_length {k : Nat} {zl : List Value} (hk : zl.length = k) (n : Nat) : (reps n zl).length = n * k := by
  simp [reps, hk]
theorem zeros_get {k : Nat} {z : Array Value} (hk : z.toList.length = k) (n N : Nat) (hn : n * k ≤ N) (i : Nat) (v : Value) (h : (reps n z.toList)[i]? = some v) :
    ((Array.range N).map (z[· % z.size]!))[i]? = some v := by
  have hi : i < n * k := by
    have := (List.getElem?_eq_some_iff.1 h).1
    rwa [reps_length hk] at this
  rw [reps_get hk n i hi] at h
  have hk0 : 0 < k := by
    rcases Nat.eq_zero_or_pos k with h0 | h0
    · subst h0
      omega
    · exact h0
  have hz : z.size = k := by rw [← hk, Array.length_toList]
  have hlt : i % k < z.size := by rw [hz]; exact Nat.mod_lt _ hk0
  rw [Array.getElem?_map, Array.getElem?_range, if_pos (by omega), Option.map_some, hz, getElem!_pos z (i % k) hlt]
  rw [Array.getElem?_toList, Array.getElem?_eq_getElem hlt] at h
  exact h
theorem make_sound {t : TypeId} {x x' c c' : Value} (hH : HRel base φ s.get w) (hfr : ∀ b, s.next ≤ b → b < s'.next → φ b = none) (hx : Rel φ x x') (hc : Rel φ c c') (h : (makeA P t x c).run s = some (v, s', l)) : Out P base φ s s' w v (Instr.makeSlice t x' c') := by
  unfold makeA at h
  split at h
  · rename_i e n m hu hxi hci
    obtain ⟨k1, rfl⟩ := intOf_rel hxi hx
    obtain ⟨k2, rfl⟩ := intOf_rel hci hc
    split at h
    · rename_i z sz by_ hz hs hby
      split at h
      · rename_i hb
        obtain ⟨b0, b1, b2, b3, b4⟩ := hb
        obtain ⟨l', h1⟩ := M.new_some h
        obtain ⟨rfl, rfl⟩ := M.ret_some h1
        obtain ⟨i, hi, hiz, his, hib⟩ := info_of hz hs hby
        subst his
        subst hib
        have wn : IntKind.i64.wrap n = n := by unfold IntKind.wrap; simp [IntKind.bits, IntKind.signed]; omega
        have wm : IntKind.i64.wrap m = m := by unfold IntKind.wrap; simp [IntKind.bits, IntKind.signed]; omega
        have hbig : ¬ ((i.bytes : Int) * m > 281474976710656) := by rw [Int.mul_comm]; omega
        have hrun : (Instr.makeSlice t (.int k1 n) (.int k2 m)).run P w = .ok (.slice (some ⟨w.heap.size, 0, none⟩) n.toNat m.toNat) (w.alloc (.cells ((Array.range (m.toNat * i.size)).map ((if m.toNat * i.size = 0 then #[] else z.cells)[· % (if m.toNat * i.size = 0 then #[] else z.cells).size]!)) e)) := by
          have hcond : (decide (m < 0) || decide ((i.bytes : Int) * m > 2 ^ 48)) = false := by simp; omega
          simp only [Instr.makeSlice, Sem.run_bind, run_underlying hu, Result.andThen_ok, asInt, asIntOf, Sem.run_pure, typeInfo, run_program, hi, wn, wm]
          rw [if_neg (by simp; omega)]
          simp only [Sem.run_bind, Sem.run_pure, Result.andThen_ok, run_askRoom, sizeOf, typeInfo, run_program, hi]
          by_cases h0 : m.toNat * i.size = 0
          · simp only [if_pos h0, Sem.run_ite, Sem.run_pure, Result.andThen_ok, newRow, run_newObj, Sem.run_bind, World.alloc_eq]
          · simp only [if_neg h0, Sem.run_ite, Sem.run_bind, zero_run hz, Sem.run_pure, Result.andThen_ok, newRow, run_newObj, World.alloc_eq]
        have hnm : n.toNat ≤ m.toNat := by omega
        refine new_out (K := m.toNat) (sem := Instr.makeSlice t (.int k1 n) (.int k2 m)) hH hfr (by simp) (fun j u hj => ?_) w rfl (Below.refl _ _) rfl fun φ' hφ' => ⟨.slice (some ⟨w.heap.size, 0, none⟩) n.toNat m.toNat, ?_, hrun⟩
        · have hj' : j < n.toNat * i.size := by
            have := (List.getElem?_eq_some_iff.1 hj).1
            rwa [reps_length b4] at this
          have hle : n.toNat * i.size ≤ m.toNat * i.size := Nat.mul_le_mul_right _ (by omega)
          have h0 : ¬ m.toNat * i.size = 0 := by omega
          rw [if_neg h0]
          refine ⟨u, zeros_get b4 n.toNat _ hle j u hj, ?_⟩
          rw [reps_get b4 n.toNat j hj'] at hj
          obtain ⟨u', h2, h3⟩ := (plain_rel (φ := φ) (zero_plain hz)).cells.get _ _ hj
          rw [hj] at h2
          cases h2
          exact h3
        · exact Rel.slice (i := 0) (o := 0) (p := 0) hφ' hnm (.inl rfl)
      · cases h
    · cases h
  · cases h
end
end Go.Am
