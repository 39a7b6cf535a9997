/- The operations of the abstract machine are those of the model: append and copy. No condition. -/
import Derived.Test.YthnmiojncfhhmaaAm6
set_option linter.unusedVariables false
set_option linter.unusedSimpArgs false
set_option linter.unusedSectionVars false
namespace Go.Am
open Go.RowKit (Below)
theorem M.get_some {α : Type} {b : Nat} {k : Blk → M α} {s s' : St} {v : α} {l : Log} (h : (M.get b k).run s = some (v, s', l)) : ∃ x l', s.get b = some x ∧ (k x).run s = some (v, s', l') := by
  simp only [M.run] at h
  cases hb : s.get b with
  | none => rw [hb] at h; cases h
  | some x =>
    rw [hb] at h
    obtain ⟨⟨a, s1, l1⟩, h1, h2⟩ := Option.map_eq_some_iff.1 h
    cases h2
    exact ⟨x, l1, rfl, h1⟩
theorem M.put_some {α : Type} {b : Nat} {x : Option Blk} {k : M α} {s s' : St} {v : α} {l : Log} (h : (M.put b x k).run s = some (v, s', l)) : ∃ l', k.run { s with get := upd s.get b x } = some (v, s', l') := by
  simp only [M.run] at h
  cases hb : s.get b with
  | none => rw [hb] at h; cases h
  | some y =>
    rw [hb] at h
    simp only [] at h
    split at h
    · obtain ⟨⟨a, s1, l1⟩, h1, h2⟩ := Option.map_eq_some_iff.1 h
      cases h2
      exact ⟨l1, h1⟩
    · cases h
theorem elemsA_some {z m : Nat} {x : Value} {news : List Value} {s s' : St} {l : Log} (h : (elemsA z x).run s = some ((news, m), s', l)) :
    s' = s ∧ ((m = 0 ∧ news = [] ∧ (x = .slice none 0 0 ∨ ∃ b o i, x = .slice (some ⟨b, o, none⟩) 0 i)) ∨
      ∃ b o i own e sz all, m ≠ 0 ∧ x = .slice (some ⟨b, o, none⟩) m i ∧ s.get b = some (.cells own e sz all) ∧ o + m * z ≤ all.length ∧ news = (all.drop o).take (m * z)) := by
  unfold elemsA at h
  split at h
  · obtain ⟨h1, rfl⟩ := M.ret_some h
    cases h1
    exact ⟨rfl, .inl ⟨rfl, rfl, .inl rfl⟩⟩
  · rename_i b o n i
    split at h
    · rename_i hn
      subst hn
      obtain ⟨h1, rfl⟩ := M.ret_some h
      cases h1
      exact ⟨rfl, .inl ⟨rfl, rfl, .inr ⟨b, o, i, rfl⟩⟩⟩
    · rename_i hn
      obtain ⟨cs, s1, l1, l2, h1, h2⟩ := M.bind_some h
      obtain ⟨rfl, own, e, sz, all, hb, hle, rfl⟩ := cellsAt_some h1
      obtain ⟨h3, rfl⟩ := M.ret_some h2
      cases h3
      exact ⟨rfl, .inr ⟨b, o, i, own, e, sz, all, hn, rfl, hb, hle, rfl⟩⟩
  · cases h
theorem splice_rel {φ : Ren} {cs vs vs' : List Value} {arr : Array Value} {o : Nat} (hc : ∀ (i : Nat) (v : Value), cs[i]? = some v → ∃ v', arr[i]? = some v' ∧ Rel φ v v') (hv : RelL φ vs vs') (ho : o ≤ cs.length) (hle : cs.length ≤ arr.size) :
    ∀ (i : Nat) (v : Value), (cs.take o ++ vs ++ cs.drop (o + vs.length))[i]? = some v → ∃ v', ((arr.toList.take o ++ vs' ++ arr.toList.drop (o + vs'.length)).toArray)[i]? = some v' ∧ Rel φ v v' := by
  intro i v hi
  simp only [List.getElem?_toArray, ← hv.length]
  rw [List.append_assoc, List.getElem?_append] at hi
  rw [List.append_assoc, List.getElem?_append]
  have e1 : (cs.take o).length = o := by rw [List.length_take]; omega
  have e2 : (arr.toList.take o).length = o := by rw [List.length_take, Array.length_toList]; omega
  rw [e1] at hi
  rw [e2]
  split at hi
  · rename_i hlt
    rw [if_pos hlt]
    rw [List.getElem?_take_of_lt hlt] at hi ⊢
    obtain ⟨v', h6, h7⟩ := hc i v hi
    exact ⟨v', by simpa using h6, h7⟩
  · rename_i hge
    rw [if_neg hge]
    rw [List.getElem?_append] at hi ⊢
    rw [← hv.length]
    split at hi
    · rename_i hlt
      rw [if_pos hlt]
      exact hv.get _ v hi
    · rename_i hge2
      rw [if_neg hge2]
      rw [List.getElem?_drop] at hi ⊢
      obtain ⟨v', h6, h7⟩ := hc _ v hi
      exact ⟨v', by simpa using h6, h7⟩
theorem len_le {φ : Ren} {cs : List Value} {arr : Array Value} (hc : ∀ (i : Nat) (v : Value), cs[i]? = some v → ∃ v', arr[i]? = some v' ∧ Rel φ v v') : cs.length ≤ arr.size := by
  rcases Nat.lt_or_ge arr.size cs.length with h4 | h4
  · obtain ⟨v', h5, _⟩ := hc arr.size _ (List.getElem?_eq_getElem h4)
    simp at h5
  · exact h4
section
variable {P : Program} {base : Nat} {φ : Ren} {s s' : St} {w : World} {v : Value} {l : Log}
theorem append_none {t ty e : TypeId} {sz : Nat} (ht : P.underlying t = some (.slice e)) (hs : sz? P e = some sz) {a : Option Addr} {n c : Nat} (hle : n ≤ c) {b : Option Addr} {d : Nat} :
    (Builtin.append_ #[t, t] ty #[.slice a n c, .slice b 0 d]).run P w = .ok (.slice a n c) w := by
  unfold sz? at hs
  obtain ⟨i, hi, rfl⟩ := Option.map_eq_some_iff.1 hs
  cases a <;> cases b <;> simp [Builtin.append_, run_underlying ht, sizeOf, typeInfo, hi, Builtin.lenOf, hle, Builtin.firstCells, loadCells, loadCellsFrom, storeCells]
theorem append_sound {t u ty : TypeId} {a a' x x' : Value} (hH : HRel base φ s.get w) (hfr : ∀ b, s.next ≤ b → b < s'.next → φ b = none) (ha : Rel φ a a') (hx : Rel φ x x') (h : (appendA P t u a x).run s = some (v, s', l)) :
    Out P base φ s s' w v (Builtin.append_ #[t, u] ty #[a', x']) := by
  unfold appendA at h
  split at h
  · cases h
  rename_i htu
  have htu' : t = u := Decidable.of_not_not htu
  subst htu'
  split at h
  case h_2 => cases h
  rename_i e ht
  split at h
  case h_2 => cases h
  rename_i z sz by_ hz hs hby
  split at h
  case isFalse => cases h
  rename_i hzs
  obtain ⟨⟨news, m⟩, s1, l1, l2, h1, h2⟩ := M.bind_some h
  obtain ⟨rfl, hm⟩ := elemsA_some h1
  simp only [] at h2
  split at h2
  case isFalse => cases h2
  rename_i hone
  obtain ⟨i, hi, hiz, his, hib⟩ := info_of hz hs hby
  rcases hm with ⟨rfl, rfl, hxe⟩ | ⟨b2, o2, i2, own2, e2, sz2, all2, hm0, rfl, hb2, hle2, rfl⟩
  · have hx' : ∃ b d, x' = .slice b 0 d := by
      rcases hxe with rfl | ⟨b, o, i, rfl⟩
      · cases hx with
        | nilSlice => exact ⟨none, 0, rfl⟩
      · cases hx with
        | slice hφ hni hp => exact ⟨_, _, rfl⟩
    obtain ⟨b, d, rfl⟩ := hx'
    split at h2
    · rw [if_pos rfl] at h2
      obtain ⟨rfl, rfl⟩ := M.ret_some h2
      cases ha with
      | nilSlice => exact Out.same hH .nilSlice (append_none ht hs (Nat.le_refl _))
    · rw [if_pos rfl] at h2
      obtain ⟨rfl, rfl⟩ := M.ret_some h2
      cases ha with
      | slice hφ hni hp => exact Out.same hH (.slice hφ hni hp) (append_none ht hs (by omega))
    · cases h2
  · cases hx with
    | slice hφ2 hni2 hp2 =>
      rename_i B2 O2 K2 p2
      obtain rfl : p2 = O2 + o2 := hp2.resolve_right (by omega)
      obtain ⟨news', hrn, hln, hcn⟩ := read_cells hH hb2 hφ2 hle2
      have hnews : ∀ (j : Nat) (u : Value), news'[j]? = some u → w.cell? ((⟨B2, O2 + o2, none⟩ : Addr).add j) = some u := fun j u hj => by
        rw [add_addr]
        exact hcn j u hj
      have hone' := hrn.oneCell hone
      have hzsz : z.cells.size = sz := by rw [← Array.length_toList]; exact hzs.1
      subst his
      subst hib
      split at h2
      · rw [if_neg hm0] at h2
        split at h2
        case isFalse => cases h2
        rename_i hbd
        obtain ⟨l', h3⟩ := M.new_some h2
        obtain ⟨rfl, rfl⟩ := M.ret_some h3
        cases ha with
        | nilSlice =>
          have hr := run_append_nil (P := P) w t ty e i z ht hi hiz ⟨B2, O2 + o2, none⟩ m (K2 - i2) news' hln hnews (by omega) (by omega) (by omega)
          have hge := grownCap_ge w m 0 e
          generalize Builtin.append_ #[t, t] ty #[.slice none 0 0, .slice (some ⟨B2, O2 + o2, none⟩) m (K2 - i2)] = sem at hr ⊢
          refine new_out (K := grownCap w m 0 e) (e := e) (sz := i.size) (arr := news'.toArray ++ Builtin.zeroCells z.cells (grownCap w m 0 e - m)) hH hfr ?_ (fun j u hj => ?_) w.drew rfl (Below.refl _ _).drew rfl fun φ' hφ' => ⟨_, ?_, hr⟩
          · simp only [Array.size_append, List.size_toArray, size_zeroCells, hzsz, hln, ← Nat.add_mul]
            congr 1
            omega
          · obtain ⟨u', k1, k2⟩ := hrn.get j u hj
            have hlt := (List.getElem?_eq_some_iff.1 k1).1
            exact ⟨u', by rw [Array.getElem?_append_left (by simpa using hlt)]; simpa using k1, k2⟩
          · exact Rel.slice (i := 0) (o := 0) (p := 0) hφ' (show m + 0 ≤ grownCap w m 0 e from hge) (.inl rfl)
      · rename_i b n
        rw [if_neg hm0] at h2
        obtain ⟨blk, l3, hb, h3⟩ := M.get_some h2
        split at h3
        case h_3 => cases h3
        case h_2 =>
          rename_i e'
          split at h3
          case isFalse => cases h3
          rename_i hcond
          obtain ⟨rfl, hbd1, hbd2⟩ := hcond
          obtain ⟨l', h4⟩ := M.new_some h3
          obtain ⟨rfl, rfl⟩ := M.ret_some h4
          cases ha with
          | slice hφ hni hp =>
            rename_i B O K p
            obtain ⟨B', O', K', k1, k2⟩ := hH.live b _ hb
            rw [hφ] at k1
            cases k1
            obtain rfl : K = 0 := k2.1 rfl
            have hr := run_append_grow (P := P) w t ty e i z ht hi hiz ⟨B, p, none⟩ 0 (0 - 0) [] (by simp) (by simp) ⟨B2, O2 + o2, none⟩ m (K2 - i2) news' hln hnews (by omega) (by omega) (growslice_fits (by omega) (by rw [Nat.zero_add]; exact hbd1))
            simp only [Nat.zero_add, Nat.sub_zero] at hr ⊢
            have hge := grownCap_ge w m 0 e
            generalize Builtin.append_ #[t, t] ty #[.slice (some ⟨B, p, none⟩) 0 0, .slice (some ⟨B2, O2 + o2, none⟩) m (K2 - i2)] = sem at hr ⊢
            refine new_out (K := grownCap w m 0 e) (e := e) (sz := i.size) (arr := [].toArray ++ news'.toArray ++ Builtin.zeroCells z.cells (grownCap w m 0 e - m)) hH hfr ?_ (fun j u hj => ?_) w.drew rfl (Below.refl _ _).drew rfl fun φ' hφ' => ⟨_, ?_, hr⟩
            · simp only [Array.size_append, List.size_toArray, List.length_nil, Nat.zero_add, size_zeroCells, hzsz, hln, ← Nat.add_mul]
              congr 1
              omega
            · obtain ⟨u', k1, k2⟩ := hrn.get j u hj
              have hlt := (List.getElem?_eq_some_iff.1 k1).1
              exact ⟨u', by rw [Array.getElem?_append_left (by simpa using hlt)]; simpa using k1, k2⟩
            · exact Rel.slice (i := 0) (o := 0) (p := 0) hφ' (show m + 0 ≤ grownCap w m 0 e from hge) (.inl rfl)
        rename_i e' sz' cs
        split at h3
        case isFalse => cases h3
        rename_i hcond
        obtain ⟨rfl, rfl, hbd1, hbd2⟩ := hcond
        cases ha with
        | slice hφ hni hp =>
          rename_i B O K p
          obtain ⟨B', O', K', k1, k2⟩ := hH.live b _ hb
          rw [hφ] at k1
          cases k1
          obtain ⟨rfl, hbase, arr, harr, hsz, hc⟩ := k2
          have hle := len_le hc
          have hlen : ((all2.drop o2).take (m * i.size)).length = m * i.size := by rw [hrn.length, hln]
          have room : n + m ≤ K → p = 0 → (Builtin.append_ #[t, t] ty #[.slice (some ⟨B, p, none⟩) n (K - 0), .slice (some ⟨B2, O2 + o2, none⟩) m (K2 - i2)]).run P w =
              .ok (.slice (some ⟨B, 0, none⟩) (n + m) (K - 0)) (w.setRow B (arr.toList.take (n * i.size) ++ news' ++ arr.toList.drop (n * i.size + news'.length)).toArray) := fun hr hp0 => by
            subst hp0
            exact run_append_room (P := P) w t ty e' i ht hi B n (K - 0) arr harr _ m (K2 - i2) news' hln hnews hone' (by omega) (by rw [hln, hsz, ← Nat.add_mul]; exact Nat.mul_le_mul_right _ hr)
          split at h3
          · rename_i hfull
            obtain ⟨l4, h4⟩ := M.put_some h3
            obtain ⟨l5, h5⟩ := M.new_some h4
            obtain ⟨rfl, rfl⟩ := M.ret_some h5
            have hn : φ s1.next = none := hfr s1.next (Nat.le_refl _) (Nat.lt_succ_self _)
            by_cases hr : n + m ≤ K
            · have hrun := room hr (hp.elim (fun h => by omega) (fun h => by omega))
              have hspl := splice_rel hc hrn (o := n * i.size) (by omega) hle
              have hd : cs.drop (cs.length + m * i.size) = [] := List.drop_eq_nil_of_le (by omega)
              rw [hfull, List.take_length, hlen, hd, List.append_nil, ← hfull] at hspl
              obtain ⟨q1, q2, q3⟩ := hH.rename (cs' := cs ++ (all2.drop o2).take (m * i.size)) (arr' := (arr.toList.take (n * i.size) ++ news' ++ arr.toList.drop (n * i.size + news'.length)).toArray) hb hφ hn harr
                (by
                  have : n * i.size + m * i.size ≤ K * i.size := by rw [← Nat.add_mul]; exact Nat.mul_le_mul_right _ hr
                  simp only [List.size_toArray, List.length_append, List.length_take, List.length_drop, Array.length_toList, hln]; omega) hspl
              exact ⟨_, _, _, q2, q1, q3, Rel.slice (i := 0) (o := 0) (p := 0) (by simp [upd]) hr (.inl rfl), hrun⟩
            · obtain ⟨olds', hro, hlo, hco⟩ := read_cells (o := 0) (n := n * i.size) hH hb hφ (by omega)
              rw [List.drop_zero, hfull, List.take_length] at hro
              have hcap : K - 0 < n + m := by omega
              have holds : ∀ (j : Nat) (u : Value), olds'[j]? = some u → w.cell? ((⟨B, p, none⟩ : Addr).add j) = some u := fun j u hj => by
                have hj' := (List.getElem?_eq_some_iff.1 hj).1
                have hp0 : p = 0 := hp.elim (fun h => by omega) (fun h => by
                  have : n = 0 := by omega
                  subst this
                  rw [hlo] at hj'
                  omega)
                subst hp0
                have := hco j u hj
                rw [add_addr]
                simpa using this
              have hr' := run_append_grow (P := P) w t ty e' i z ht hi hiz ⟨B, p, none⟩ n (K - 0) olds' hlo holds ⟨B2, O2 + o2, none⟩ m (K2 - i2) news' hln hnews hcap (by omega) (growslice_fits hcap hbd1)
              have hge := grownCap_ge w (n + m) (K - 0) e'
              generalize Builtin.append_ #[t, t] ty #[.slice (some ⟨B, p, none⟩) n (K - 0), .slice (some ⟨B2, O2 + o2, none⟩) m (K2 - i2)] = sem at hr' ⊢
              refine new_out (s := { s1 with get := upd s1.get b none }) (K := grownCap w (n + m) (K - 0) e') (e := e') (sz := i.size) (cs := cs ++ (all2.drop o2).take (m * i.size)) (arr := olds'.toArray ++ news'.toArray ++ Builtin.zeroCells z.cells (grownCap w (n + m) (K - 0) e' - (n + m))) (hH.drop b) hfr ?_ (fun j u hj => ?_) w.drew rfl (Below.refl _ _).drew rfl fun φ' hφ' => ⟨_, ?_, hr'⟩
              · simp only [Array.size_append, List.size_toArray, size_zeroCells, hzsz, hln, hlo, ← Nat.add_mul]
                congr 1
                omega
              · obtain ⟨u', k1, k2⟩ := (hro.append hrn).get j u hj
                have hlt := (List.getElem?_eq_some_iff.1 k1).1
                refine ⟨u', ?_, k2⟩
                rw [Array.getElem?_append_left (by simpa using hlt)]
                simpa using k1
              · exact Rel.slice (i := 0) (o := 0) (p := 0) hφ' (show n + m + 0 ≤ grownCap w (n + m) (K - 0) e' from hge) (.inl rfl)
          · split at h3
            case isFalse => cases h3
            rename_i hnf hfit
            obtain ⟨l4, h4⟩ := M.put_some h3
            obtain ⟨rfl, rfl⟩ := M.ret_some h4
            have hr : n + m ≤ K := by
              have : (n + m) * i.size ≤ K * i.size := by rw [Nat.add_mul]; omega
              exact Nat.le_of_mul_le_mul_right this hzs.2
            have hrun := room hr (hp.elim (fun h => by omega) (fun h => by omega))
            have hspl := splice_rel hc hrn (o := n * i.size) (by omega) hle
            obtain ⟨q1, q2⟩ := hH.write (arr' := (arr.toList.take (n * i.size) ++ news' ++ arr.toList.drop (n * i.size + news'.length)).toArray) hb hφ harr
              (by simp only [List.size_toArray, List.length_append, List.length_take, List.length_drop, Array.length_toList, hln]; omega) hspl
            exact ⟨φ, _, _, Ext.refl _ _ _, q1, q2, Rel.slice (i := 0) (o := 0) (p := 0) hφ hr (.inl rfl), hrun⟩
      · cases h2
theorem copy_sound {t u ty : TypeId} {d d' x x' : Value} (hH : HRel base φ s.get w) (hd : Rel φ d d') (hx : Rel φ x x') (h : (copyA P t d x).run s = some (v, s', l)) :
    Out P base φ s s' w v (Builtin.copy_ #[t, u] ty #[d', x']) := by
  unfold copyA at h
  split at h
  case h_2 => cases h
  rename_i e ht
  split at h
  case h_2 => cases h
  rename_i z da dn di sa sn si hs
  simp only [] at h
  split at h
  · cases h
  rename_i hnz
  split at h
  case h_2 => cases h
  rename_i db d0 sb s0
  obtain ⟨cs, s1, l1, l2, h1, h2⟩ := M.bind_some h
  obtain ⟨rfl, own, e', sz, all, hb, hle, rfl⟩ := cellsAt_some h1
  obtain ⟨u1, s2, l3, l4, h3, h4⟩ := M.bind_some h2
  obtain ⟨rfl, rfl⟩ := M.ret_some h4
  have hm1 : Nat.min sn dn ≤ sn := Nat.min_le_left _ _
  have hm2 : Nat.min sn dn ≤ dn := Nat.min_le_right _ _
  cases hd with
  | slice hφd hnd hpd =>
    rename_i B O K p
    cases hx with
    | slice hφs hns hps =>
      rename_i B2 O2 K2 p2
      obtain rfl : p = O + d0 := hpd.resolve_right (by omega)
      obtain rfl : p2 = O2 + s0 := hps.resolve_right (by omega)
      obtain ⟨cs', hr, hl, hc⟩ := read_cells hH hb hφs hle
      obtain ⟨w', k1, k2, k3, k4⟩ := put_sound (P := P) hH hφd hr h3
      refine ⟨φ, _, w', Ext.refl _ _ _, k2, k3, .int _ _, ?_⟩
      simp only [Builtin.copy_, List.getElem?_toArray, Sem.run_bind, run_underlying ht, Result.andThen_ok, sz_run hs, Builtin.lenOf, Sem.run_pure, Builtin.firstCells, run_loadCells_of hl hc, k4, goInt, List.getElem?_cons_zero, List.getElem?_cons_succ]
theorem zeroCells_list (z : Array Value) (n : Nat) : (Builtin.zeroCells z n).toList = reps n z.toList := by
  apply List.ext_getElem?
  intro i
  by_cases h : i < n * z.size
  · rw [reps_get (k := z.size) (by simp) n i h]
    have hz : 0 < z.size := by
      rcases Nat.eq_zero_or_pos z.size with h0 | h0
      · rw [h0] at h
        omega
      · exact h0
    have hm : i % z.size < z.size := Nat.mod_lt _ hz
    simp [Builtin.zeroCells, h, hm]
  · have h1 : (reps n z.toList).length ≤ i := by simp [reps]; omega
    rw [List.getElem?_eq_none h1, List.getElem?_eq_none (by simp [Builtin.zeroCells]; omega)]
theorem RelL.app {φ : Ren} {a a' b b' : List Value} (h : RelL φ a a') (g : RelL φ b b') : RelL φ (a ++ b) (a' ++ b') := by
  induction a generalizing a' with
  | nil =>
    cases h
    exact g
  | cons x a ih =>
    cases h with
    | cons h1 h2 => exact .cons h1 (ih h2)
theorem reps_rel {φ : Ren} {zl : List Value} (h : RelL φ zl zl) : ∀ n, RelL φ (reps n zl) (reps n zl)
  | 0 => .nil
  | n + 1 => by
    have e : reps (n + 1) zl = zl ++ reps n zl := by simp [reps, List.replicate_succ]
    rw [e]
    exact h.app (reps_rel h n)
theorem clear_sound {t ty : TypeId} {x x' : Value} (hH : HRel base φ s.get w) (hx : Rel φ x x') (h : (clearA P t x).run s = some (v, s', l)) :
    Out P base φ s s' w v (Builtin.clear_ #[t] ty #[x']) := by
  unfold clearA at h
  split at h
  case h_2 => cases h
  rename_i e a n i ht
  split at h
  · rename_i hn
    subst hn
    obtain ⟨rfl, rfl⟩ := M.ret_some h
    refine ⟨φ, _, w, Ext.refl _ _ _, hH, Below.refl _ _, .tuple .nil, ?_⟩
    cases hx <;> simp [Builtin.clear_, run_underlying ht]
  rename_i hn
  split at h
  case h_2 => cases h
  rename_i b o z hz
  obtain ⟨u1, s2, l3, l4, h3, h4⟩ := M.bind_some h
  obtain ⟨rfl, rfl⟩ := M.ret_some h4
  cases hx with
  | slice hφ hnK hp =>
    rename_i B O K p
    obtain rfl : p = O + o := hp.resolve_right (by omega)
    have hpl := zero_plain hz
    have hr : RelL φ (reps n z.cells.toList) (Builtin.zeroCells z.cells n).toList := by
      rw [zeroCells_list]
      exact reps_rel (plain_rel hpl).cells n
    obtain ⟨w', k1, k2, k3, k4⟩ := put_sound (P := P) hH hφ hr h3
    refine ⟨φ, _, w', k1 ▸ Ext.refl _ _ _, k2, k3, .tuple .nil, ?_⟩
    obtain ⟨m, rfl⟩ : ∃ m, n = m + 1 := ⟨n - 1, by omega⟩
    simp only [Builtin.clear_, List.getElem?_toArray, Sem.run_bind, run_underlying ht, Result.andThen_ok, zero_run hz, Sem.run_pure, k4, List.getElem?_cons_zero]
end
end Go.Am
