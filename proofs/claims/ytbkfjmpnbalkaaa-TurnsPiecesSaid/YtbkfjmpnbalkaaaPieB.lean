/- The two checkers of roads answer alike. -/
import Derived.Test.YtbkfjmpnbalkaaaPieA
namespace Go.Proofs.Ytbkfjmpnbalkaaa.Pure
open Go.RowKit Go.Proofs.Ytbkfjmpnbalkaaa.QTurnsPieces Go.Proofs.YtbkfjmpnbalkaaaW.PrintWords
def InR (N : Int) (p : S58) : Prop := 0 ≤ p.f0 ∧ p.f0 < N ∧ 0 ≤ p.f1 ∧ p.f1 < N
theorem pcs (P : List S58) (N : Int) (L0 : List Int) (L1 : List S158) (hP : P.length ≤ 10) : ∀ n (i : Nat), i + n = P.length →
    ∃ e, (e = 0 → ∀ j : Nat, i ≤ j → j < P.length → InR N (Qh P j)) ∧ ∀ k, 2 * n + 18 ≤ k → QA.l1 k N P P.length i = some e ∧ Qn.l1 k N i L0 L1 P = some e
  | 0, i, hi => by
    refine ⟨0, fun _ j h1 h2 => by omega, fun k hk => ?_⟩
    obtain ⟨k, rfl⟩ : ∃ k', k = k' + 1 := ⟨k - 1, by omega⟩
    have h1 : ¬ (i : Int) < (P.length : Int) := by omega
    constructor
    · unfold QA.l1
      rw [if_neg h1]
    · unfold Qn.l1
      rw [if_neg h1]
  | n + 1, i, hi => by
    have h1 : (i : Int) < (P.length : Int) := by omega
    have h0 : (0 : Int) ≤ i := by omega
    have hw : wrap64 ((i : Int) + 1) = ((i + 1 : Nat) : Int) := by rw [w64 (by omega) (by omega)]; omega
    by_cases hb : (Qh P i).f0 < 0 ∨ (Qh P i).f0 ≥ N ∨ (Qh P i).f1 < 0 ∨ (Qh P i).f1 ≥ N ∨ (Qh P i).f2 < 1 ∨ (Qh P i).f2 > 2147483647 ∨ (Qh P i).f4 < 1 ∨ (Qh P i).f4 > 6 ∨ (Qh P i).f3 < 0 ∨ (Qh P i).f3 > 67108864
    · refine ⟨2, (fun h => by omega), fun k hk => ?_⟩
      obtain ⟨k, rfl⟩ : ∃ k', k = k' + 1 + 1 := ⟨k - 2, by omega⟩
      constructor
      · unfold QA.l1
        rw [if_pos h1, if_pos h0, if_pos h1]
        repeat' split
        all_goals (unfold QA.j2; rw [if_pos (by first | rfl | (simp; omega))])
      · unfold Qn.l1
        rw [if_pos h1, if_pos h0]
        repeat' split
        all_goals (unfold Qn.j2; rw [if_pos (by first | rfl | (simp; omega))])
    · have b0 : ¬ (Qh P i).f0 < 0 := fun h => hb (by omega)
      have b1 : ¬ (Qh P i).f0 ≥ N := fun h => hb (by omega)
      have b2 : ¬ (Qh P i).f1 < 0 := fun h => hb (by omega)
      have b3 : ¬ (Qh P i).f1 ≥ N := fun h => hb (by omega)
      have b4 : ¬ (Qh P i).f2 < 1 := fun h => hb (by omega)
      have b5 : ¬ (Qh P i).f2 > 2147483647 := fun h => hb (by omega)
      have b6 : ¬ (Qh P i).f4 < 1 := fun h => hb (by omega)
      have b7 : ¬ (Qh P i).f4 > 6 := fun h => hb (by omega)
      have b8 : ¬ (Qh P i).f3 < 0 := fun h => hb (by omega)
      have b9 : ¬ decide ((Qh P i).f3 > 67108864) = true := fun h => hb (by have := of_decide_eq_true h; omega)
      obtain ⟨s, hs⟩ := sched (Qh P i).f5.f0 (Qh P i).f5.f1 (Qh P i).f5.f2
      obtain ⟨e, hr, he⟩ := pcs P N L0 L1 hP n (i + 1) (by omega)
      by_cases h6 : s = 0
      · refine ⟨e, fun h j hj1 hj2 => ?_, fun k hk => ?_⟩
        · rcases Nat.lt_or_ge i j with h7 | h7
          · exact hr h j h7 hj2
          · obtain rfl : j = i := by omega
            exact ⟨by omega, by omega, by omega, by omega⟩
        obtain ⟨k, rfl⟩ : ∃ k', k = k' + 1 + 1 := ⟨k - 2, by omega⟩
        obtain ⟨e1, e2⟩ := he k (by omega)
        obtain ⟨s1, s2⟩ := hs k (by omega)
        constructor
        · unfold QA.l1
          rw [if_pos h1, if_pos h0, if_pos h1, if_neg b0, if_neg b1, if_neg b2, if_neg b3, if_neg b4, if_neg b5, if_neg b6, if_neg b7, if_neg b8]
          unfold QA.j2
          rw [if_neg b9, s1, Option.bind_some, if_pos h6, hw]
          exact e1
        · unfold Qn.l1
          rw [if_pos h1, if_pos h0, if_neg b0, if_neg b1, if_neg b2, if_neg b3, if_neg b4, if_neg b5, if_neg b6, if_neg b7, if_neg b8]
          unfold Qn.j2
          rw [if_neg b9, s2, Option.bind_some, if_pos h6, hw]
          exact e2
      · refine ⟨s, fun h => absurd h h6, fun k hk => ?_⟩
        obtain ⟨k, rfl⟩ : ∃ k', k = k' + 1 + 1 := ⟨k - 2, by omega⟩
        obtain ⟨s1, s2⟩ := hs k (by omega)
        constructor
        · unfold QA.l1
          rw [if_pos h1, if_pos h0, if_pos h1, if_neg b0, if_neg b1, if_neg b2, if_neg b3, if_neg b4, if_neg b5, if_neg b6, if_neg b7, if_neg b8]
          unfold QA.j2
          rw [if_neg b9, s1, Option.bind_some, if_neg h6]
        · unfold Qn.l1
          rw [if_pos h1, if_pos h0, if_neg b0, if_neg b1, if_neg b2, if_neg b3, if_neg b4, if_neg b5, if_neg b6, if_neg b7, if_neg b8]
          unfold Qn.j2
          rw [if_neg b9, s2, Option.bind_some, if_neg h6]
theorem nds (L0 : List Int) (L1 : List S158) (P : List S58) (hP : P.length ≤ 10) (hL : L0.length ≤ 12) : ∀ n (i : Nat), 1 ≤ i → L0.length ≤ i + n →
    ∃ e, (e = 0 → ∀ j : Nat, j < P.length → InR L0.length (Qh P j)) ∧ ∀ k, n + 39 ≤ k → QA.l0 k i L0 L1 P = some e ∧ Qn.l0 k L0.length i L0 L1 P = some e
  | n, i, h1, hi => by
    by_cases hlt : (i : Int) < (L0.length : Int)
    · obtain ⟨n, rfl⟩ : ∃ n', n = n' + 1 := ⟨n - 1, by omega⟩
      have hw : wrap64 ((i : Int) + 1) = ((i + 1 : Nat) : Int) := by rw [w64 (by omega) (by omega)]; omega
      have hm : wrap64 ((i : Int) - 1) = (i : Int) - 1 := w64 (by omega) (by omega)
      have g0 : (0 : Int) ≤ i := by omega
      have g1 : (0 : Int) ≤ (i : Int) - 1 := by omega
      have g2 : (i : Int) - 1 < (L0.length : Int) := by omega
      by_cases h6 : rd L0 ((i : Int) - 1) ≥ rd L0 i
      · refine ⟨6, (fun h => by omega), fun k hk => ?_⟩
        obtain ⟨k, rfl⟩ : ∃ k', k = k' + 1 := ⟨k - 1, by omega⟩
        constructor
        · unfold QA.l0
          rw [if_pos hlt, hm, if_pos g1, if_pos g2, if_pos g0, if_pos h6]
        · unfold Qn.l0
          rw [if_pos hlt, hm, if_pos g1, if_pos g2, if_pos g0, if_pos hlt, if_pos h6]
      · obtain ⟨e, hr, he⟩ := nds L0 L1 P hP hL n (i + 1) (by omega) (by omega)
        refine ⟨e, hr, fun k hk => ?_⟩
        obtain ⟨k, rfl⟩ : ∃ k', k = k' + 1 := ⟨k - 1, by omega⟩
        obtain ⟨e1, e2⟩ := he k (by omega)
        constructor
        · unfold QA.l0
          rw [if_pos hlt, hm, if_pos g1, if_pos g2, if_pos g0, if_neg h6, hw]
          exact e1
        · unfold Qn.l0
          rw [if_pos hlt, hm, if_pos g1, if_pos g2, if_pos g0, if_pos hlt, if_neg h6, hw]
          exact e2
    · obtain ⟨e, hr, he⟩ := pcs P L0.length L0 L1 hP P.length 0 (by omega)
      refine ⟨e, fun h j hj => hr h j (by omega) hj, fun k hk => ?_⟩
      obtain ⟨k, rfl⟩ : ∃ k', k = k' + 1 := ⟨k - 1, by omega⟩
      obtain ⟨e1, e2⟩ := he k (by omega)
      constructor
      · unfold QA.l0
        rw [if_neg hlt]
        exact e1
      · unfold Qn.l0
        rw [if_neg hlt]
        exact e2
/-- The two checkers answer alike; where they answer 0, the pieces' ends are nodes. -/
theorem check (L0 : List Int) (L1 : List S158) (P : List S58) (hP : P.length ≤ 10) (hL : L0.length ≤ 12) :
    ∃ e, (e = 0 → ∀ j : Nat, j < P.length → InR L0.length (Qh P j)) ∧ ∀ k, 60 ≤ k → QA.f k L0 L1 P = some e ∧ Qn.f k L0 L1 P = some e := by
  by_cases hl : (L0.length : Int) = (L1.length : Int)
  · obtain ⟨e, hr, he⟩ := nds L0 L1 P hP hL L0.length 1 (by omega) (by omega)
    refine ⟨e, hr, fun k hk => ?_⟩
    obtain ⟨e1, e2⟩ := he k (by omega)
    exact ⟨by unfold QA.f; rw [if_pos hl]; exact e1, by unfold Qn.f; rw [if_pos hl]; exact e2⟩
  · exact ⟨12, fun h => absurd h (by decide), fun k _ => ⟨by unfold QA.f; rw [if_neg hl], by unfold Qn.f; rw [if_neg hl]⟩⟩
end Go.Proofs.Ytbkfjmpnbalkaaa.Pure
