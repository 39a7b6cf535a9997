/- few, the lists of the pieces that leave, and the two tests of a pair. -/
import Derived.Test.YtbkfjmpnbalkaaaPieB
namespace Go.Proofs.Ytbkfjmpnbalkaaa.Pure
open Go.RowKit Go.Proofs.Ytbkfjmpnbalkaaa.QTurnsPieces Go.Proofs.YtbkfjmpnbalkaaaW.PrintWords
theorem fewEnd (T : List S42) (L0 : List Int) (L1 : List S158) (P : List S58) (i : Int) : ∃ b, (b = true → P.length ≤ 10 ∧ L0.length ≤ 12) ∧ ∀ k, QC.j1 (k + 1) T i false L0 L1 P = some b := by
  by_cases h1 : (P.length : Int) ≤ 10
  · by_cases h2 : (L0.length : Int) ≤ 12
    · by_cases h3 : (L1.length : Int) ≤ 12
      · exact ⟨decide ((T.length : Int) ≤ 20), fun _ => ⟨by omega, by omega⟩, fun k => by unfold QC.j1; rw [if_neg (by decide), if_pos h1, if_pos h2, if_pos h3]⟩
      · exact ⟨false, (fun h => by cases h), fun k => by unfold QC.j1; rw [if_neg (by decide), if_pos h1, if_pos h2, if_neg h3]⟩
    · exact ⟨false, (fun h => by cases h), fun k => by unfold QC.j1; rw [if_neg (by decide), if_pos h1, if_neg h2]⟩
  · exact ⟨false, (fun h => by cases h), fun k => by unfold QC.j1; rw [if_neg (by decide), if_neg h1]⟩
theorem fewL (T : List S42) (L0 : List Int) (L1 : List S158) (P : List S58) : ∀ n (i : Nat), i + n = 11 → ∃ b, (b = true → P.length ≤ 10 ∧ L0.length ≤ 12) ∧ ∀ k, 2 * n + 2 ≤ k → QC.l0 k T i L0 L1 P = some b
  | n, i, hi => by
    by_cases h1 : (i : Int) < (P.length : Int)
    · by_cases h11 : (i : Int) < 11
      · obtain ⟨n, rfl⟩ : ∃ n', n = n' + 1 := ⟨n - 1, by omega⟩
        have hw : wrap64 ((i : Int) + 1) = ((i + 1 : Nat) : Int) := by rw [w64 (by omega) (by omega)]; omega
        by_cases h20 : ((Qh P i).f5.f0.length : Int) > 20
        · refine ⟨false, (fun h => by cases h), fun k hk => ?_⟩
          obtain ⟨k, rfl⟩ : ∃ k', k = k' + 1 + 1 := ⟨k - 2, by omega⟩
          unfold QC.l0
          rw [if_pos h1]
          unfold QC.j1
          rw [if_pos (decide_eq_true h11), if_pos (by omega), if_pos h1, if_pos h20]
        · obtain ⟨b, hb, h⟩ := fewL T L0 L1 P n (i + 1) (by omega)
          refine ⟨b, hb, fun k hk => ?_⟩
          obtain ⟨k, rfl⟩ : ∃ k', k = k' + 1 + 1 := ⟨k - 2, by omega⟩
          unfold QC.l0
          rw [if_pos h1]
          unfold QC.j1
          rw [if_pos (decide_eq_true h11), if_pos (by omega), if_pos h1, if_neg h20, hw]
          exact h k (by omega)
      · obtain ⟨b, hb, h⟩ := fewEnd T L0 L1 P i
        refine ⟨b, hb, fun k hk => ?_⟩
        obtain ⟨k, rfl⟩ : ∃ k', k = k' + 1 + 1 := ⟨k - 2, by omega⟩
        unfold QC.l0
        rw [if_pos h1, decide_eq_false h11]
        exact h k
    · obtain ⟨b, hb, h⟩ := fewEnd T L0 L1 P i
      refine ⟨b, hb, fun k hk => ?_⟩
      obtain ⟨k, rfl⟩ : ∃ k', k = k' + 1 + 1 := ⟨k - 2, by omega⟩
      unfold QC.l0
      rw [if_neg h1]
      exact h k
theorem few (T : List S42) (L0 : List Int) (L1 : List S158) (P : List S58) : ∃ b, (b = true → P.length ≤ 10 ∧ L0.length ≤ 12) ∧ ∀ k, 24 ≤ k → QC.f k L0 L1 P T = some b := by
  obtain ⟨b, hb, h⟩ := fewL T L0 L1 P 11 0 (by omega)
  exact ⟨b, hb, fun k hk => h k (by omega)⟩
def Lists (P : List S58) (i : Nat) (X : List (List Int)) : Prop := ∀ (v : Nat) (x : Int), x ∈ X.getD v [] ↔ ∃ j : Nat, j < i ∧ x = (j : Int) ∧ (Qh P j).f0 = (v : Int)
theorem getD_set {α : Type} (X : List α) (c v : Nat) (y d : α) (hc : c < X.length) : (X.set c y).getD v d = if v = c then y else X.getD v d := by
  rw [List.getD_eq_getElem?_getD, List.getD_eq_getElem?_getD, List.getElem?_set]
  by_cases h : c = v
  · subst h
    simp [hc]
  · rw [if_neg h, if_neg (fun e => h e.symm)]
theorem lv (P : List S58) (hP : P.length ≤ 10) (N : Nat) (hr : ∀ j : Nat, j < P.length → InR N (Qh P j)) : ∀ n (i : Nat) (X : List (List Int)), i + n = P.length → X.length = N → (∀ v, (X.getD v []).length ≤ i) → Lists P i X →
    ∃ out, out.length = N ∧ Lists P P.length out ∧ ∀ k, n + 1 ≤ k → QJ.l0 k X P P.length i = some out
  | 0, i, X, hi, hX, _, hL => by
    obtain rfl : i = P.length := by omega
    refine ⟨X, hX, hL, fun k hk => ?_⟩
    obtain ⟨k, rfl⟩ : ∃ k', k = k' + 1 := ⟨k - 1, by omega⟩
    unfold QJ.l0
    rw [if_neg (by omega)]
  | n + 1, i, X, hi, hX, hlen, hL => by
    have h1 : (i : Int) < (P.length : Int) := by omega
    have hw : wrap64 ((i : Int) + 1) = ((i + 1 : Nat) : Int) := by rw [w64 (by omega) (by omega)]; omega
    obtain ⟨r0, r1, _, _⟩ := hr i (by omega)
    obtain ⟨c, hc⟩ : ∃ c : Nat, (Qh P i).f0 = (c : Int) := ⟨(Qh P i).f0.toNat, by omega⟩
    have hcl : c < X.length := by omega
    have hcc := hlen c
    obtain ⟨out, ho, hO, h⟩ := lv P hP N hr n (i + 1) (X.set c (X.getD c [] ++ [(i : Int)])) (by omega) (by simp [hX]) (fun v => by
      rw [getD_set X c v _ _ hcl]
      split
      · rw [List.length_append, List.length_singleton]
        omega
      · have := hlen v
        omega) (fun v x => by
      rw [getD_set X c v _ _ hcl]
      by_cases hv : v = c
      · subst hv
        rw [if_pos rfl, List.mem_append, List.mem_singleton, hL]
        constructor
        · rintro (⟨j, h1, h2, h3⟩ | rfl)
          · exact ⟨j, by omega, h2, h3⟩
          · exact ⟨i, by omega, rfl, hc⟩
        · rintro ⟨j, h1, h2, h3⟩
          rcases Nat.lt_or_ge j i with h4 | h4
          · exact .inl ⟨j, h4, h2, h3⟩
          · obtain rfl : j = i := by omega
            exact .inr h2
      · rw [if_neg hv, hL]
        constructor
        · rintro ⟨j, h1, h2, h3⟩
          exact ⟨j, by omega, h2, h3⟩
        · rintro ⟨j, h1, h2, h3⟩
          rcases Nat.lt_or_ge j i with h4 | h4
          · exact ⟨j, h4, h2, h3⟩
          · obtain rfl : j = i := by omega
            exact absurd (by omega : v = c) hv)
    refine ⟨out, ho, hO, fun k hk => ?_⟩
    obtain ⟨k, rfl⟩ : ∃ k', k = k' + 1 := ⟨k - 1, by omega⟩
    unfold QJ.l0
    rw [if_pos h1, if_pos (by omega), if_pos h1, if_pos r0, if_pos (by omega), hc, show rd_L7 X (c : Int) = X.getD c [] from rfl, if_pos (by omega), hw]
    exact h k (by omega)
theorem leaving (L0 : List Int) (L1 : List S158) (P : List S58) (hP : P.length ≤ 10) (hL : L0.length ≤ 12) (hr : ∀ j : Nat, j < P.length → InR L0.length (Qh P j)) :
    ∃ out, out.length = L0.length ∧ Lists P P.length out ∧ ∀ k, 11 ≤ k → QJ.f k L0 L1 P = some out := by
  have hz : ∀ v, (List.replicate L0.length ([] : List Int)).getD v [] = [] := fun v => by
    rw [List.getD_eq_getElem?_getD, List.getElem?_replicate]
    split <;> rfl
  obtain ⟨out, ho, hO, h⟩ := lv P hP L0.length hr P.length 0 (List.replicate L0.length []) (by omega) (by simp) (fun v => by rw [hz]; simp) (fun v x => by
    rw [hz]
    constructor
    · intro h
      cases h
    · rintro ⟨j, h, _⟩
      omega)
  refine ⟨out, ho, hO, fun k hk => ?_⟩
  unfold QJ.f
  rw [if_pos (by omega), if_pos (by omega)]
  exact h k (by omega)
theorem rd_lt (P : List S58) (j : Nat) (h : j < P.length) : Qh P j = P[j] := by
  show P.getD _ _ = _
  rw [List.getD_eq_getElem?_getD, Int.toNat_natCast, List.getElem?_eq_getElem h]
  rfl
theorem perm_ref (L0 : List Int) (P : List S58) (T : List S42) (out : List (List Int)) (hO : Lists P P.length out) (a2 a3 : Int) (v : Nat) (hv : (Qh P a3).f0 = (v : Int)) (hf : (Qh P a2).f1 = (Qh P a3).f0) :
    permB L0 P T (out.getD v []) a2 a3 = refB L0 P T (Qh P a2) (Qh P a3) := by
  unfold permB refB
  generalize Qh P a2 = x at *
  generalize Qh P a3 = y at *
  have e1 : pcBack x y = decide (y.f0 = x.f1 ∧ y.f1 = x.f0 ∧ y.f2 = x.f2) := by
    unfold pcBack
    rw [decide_eq_decide]
    exact ⟨fun h => ⟨hf.symm, h.2, h.1⟩, fun h => ⟨h.2.2, h.2.1⟩⟩
  have e2 : (out.getD v []).any (fun i => !pcBack x (Qh P i)) = P.any (fun z => decide (z.f0 = x.f1) && !decide (z.f0 = x.f1 ∧ z.f1 = x.f0 ∧ z.f2 = x.f2)) := by
    rw [Bool.eq_iff_iff, List.any_eq_true, List.any_eq_true]
    constructor
    · rintro ⟨i, hi, hp⟩
      obtain ⟨j, hj, rfl, hj2⟩ := (hO v i).1 hi
      refine ⟨P[j], List.getElem_mem hj, ?_⟩
      rw [rd_lt P j hj] at hp hj2
      simp only [pcBack, Bool.not_eq_true', decide_eq_false_iff_not, Bool.and_eq_true, decide_eq_true_eq] at hp ⊢
      exact ⟨by omega, fun h => hp ⟨h.2.2, h.2.1⟩⟩
    · rintro ⟨z, hz, hp⟩
      obtain ⟨j, hj, rfl⟩ := List.mem_iff_getElem.1 hz
      simp only [Bool.not_eq_true', decide_eq_false_iff_not, Bool.and_eq_true, decide_eq_true_eq] at hp
      refine ⟨(j : Int), (hO v _).2 ⟨j, hj, rfl, by rw [rd_lt P j hj]; omega⟩, ?_⟩
      rw [rd_lt P j hj]
      simp only [pcBack, Bool.not_eq_true', decide_eq_false_iff_not]
      exact fun h => hp.2 ⟨hp.1, h.2, h.1⟩
  rw [e1, e2]
end Go.Proofs.Ytbkfjmpnbalkaaa.Pure
