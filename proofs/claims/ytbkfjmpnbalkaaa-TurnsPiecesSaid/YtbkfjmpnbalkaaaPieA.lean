/- The two checkers of a schedule answer alike. -/
import Derived.Test.YtbkfjmpnbalkaaaQTurnsPiecesx13
namespace Go.Proofs.Ytbkfjmpnbalkaaa.Pure
open Go.RowKit Go.Proofs.Ytbkfjmpnbalkaaa.QTurnsPieces Go.Proofs.YtbkfjmpnbalkaaaW.PrintWords
theorem w64 {n : Int} (h0 : 0 ≤ n) (h1 : n < 9223372036854775808) : wrap64 n = n := by unfold wrap64; omega
theorem sch (l : List S120) (a b : Int) (hl : l.length ≤ 8) : ∀ n (i : Nat), i + n = l.length → ∀ last : Int, ((i = 0 ∧ last = 0) ∨ (0 < i ∧ last = (QU l ((i : Int) - 1)).f1)) →
    ∃ e, ∀ k, 2 * n + 1 ≤ k → QE.l0 k last l l.length i l a b = some e ∧ Qq.l0 k i l a b = some e
  | 0, i, hi, last, _ => by
    refine ⟨if b < 0 then 19 else if b = 0 then (if a = 0 then 0 else 19) else (if a < 0 then 19 else if a ≥ 1440 then 19 else 0), fun k hk => ?_⟩
    obtain ⟨k, rfl⟩ : ∃ k', k = k' + 1 := ⟨k - 1, by omega⟩
    have h1 : ¬ (i : Int) < (l.length : Int) := by omega
    constructor
    · unfold QE.l0
      rw [if_neg h1]
      repeat' split
      all_goals first | rfl | (exfalso; omega)
    · unfold Qq.l0
      rw [if_neg h1]
      repeat' split
      all_goals first | rfl | (exfalso; omega)
  | n + 1, i, hi, last, hlast => by
    have h1 : (i : Int) < (l.length : Int) := by omega
    have h0 : (0 : Int) ≤ i := by omega
    have hw : wrap64 ((i : Int) + 1) = ((i + 1 : Nat) : Int) := by rw [w64 (by omega) (by omega)]; omega
    by_cases hb : (QU l i).f0 < 0 ∨ (QU l i).f1 ≤ (QU l i).f0 ∨ (QU l i).f1 > 1440
    · refine ⟨2, fun k hk => ?_⟩
      obtain ⟨k, rfl⟩ : ∃ k', k = k' + 1 + 1 := ⟨k - 2, by omega⟩
      constructor
      · unfold QE.l0
        rw [if_pos h1, if_pos h0, if_pos h1]
        repeat' split
        all_goals (unfold QE.j1; first | rfl | (rw [if_pos (by simp; omega)]))
      · unfold Qq.l0
        rw [if_pos h1, if_pos h0]
        repeat' split
        all_goals (unfold Qq.j1; first | rfl | (rw [if_pos (by simp; omega)]))
    · have b0 : ¬ (QU l i).f0 < 0 := fun h => hb (.inl h)
      have b1 : ¬ (QU l i).f1 ≤ (QU l i).f0 := fun h => hb (.inr (.inl h))
      have b2 : ¬ (QU l i).f1 > 1440 := fun h => hb (.inr (.inr h))
      obtain ⟨e, he⟩ := sch l a b hl n (i + 1) (by omega) (QU l i).f1 (.inr ⟨by omega, by rw [show (((i + 1 : Nat) : Int) - 1) = (i : Int) by omega]⟩)
      by_cases h6 : (QU l i).f0 < last
      · refine ⟨6, fun k hk => ?_⟩
        obtain ⟨k, rfl⟩ : ∃ k', k = k' + 1 + 1 := ⟨k - 2, by omega⟩
        rcases hlast with ⟨_, rfl⟩ | ⟨hi0, hla⟩
        · exact absurd h6 b0
        constructor
        · unfold QE.l0
          rw [if_pos h1, if_pos h0, if_pos h1, if_neg b0, if_neg b1]
          unfold QE.j1
          rw [if_neg (by simp; omega), if_pos h6]
        · unfold Qq.l0
          rw [if_pos h1, if_pos h0, if_neg b0, if_neg b1]
          unfold Qq.j1
          rw [hla] at h6
          rw [if_neg (by simp; omega), if_pos (by omega), w64 (n := (i : Int) - 1) (by omega) (by omega), if_pos (by omega), if_pos (by omega), if_pos h6]
      · refine ⟨e, fun k hk => ?_⟩
        obtain ⟨k, rfl⟩ : ∃ k', k = k' + 1 + 1 := ⟨k - 2, by omega⟩
        obtain ⟨e1, e2⟩ := he k (by omega)
        constructor
        · unfold QE.l0
          rw [if_pos h1, if_pos h0, if_pos h1, if_neg b0, if_neg b1]
          unfold QE.j1
          rw [if_neg (by simp; omega), if_neg h6, hw]
          exact e1
        · unfold Qq.l0
          rw [if_pos h1, if_pos h0, if_neg b0, if_neg b1]
          unfold Qq.j1
          rw [if_neg (by simp; omega), hw]
          rcases hlast with ⟨hi0, _⟩ | ⟨hi0, hla⟩
          · rw [if_neg (by omega)]
            exact e2
          · rw [hla] at h6
            rw [if_pos (by omega), w64 (n := (i : Int) - 1) (by omega) (by omega), if_pos (by omega), if_pos (by omega), if_neg h6]
            exact e2
theorem sched (l : List S120) (a b : Int) : ∃ e, ∀ k, 17 ≤ k → QE.f k l a b = some e ∧ Qq.f k l a b = some e := by
  by_cases hl : (l.length : Int) > 8
  · exact ⟨5, fun k _ => ⟨by unfold QE.f; rw [if_pos hl], by unfold Qq.f; rw [if_pos hl]⟩⟩
  · obtain ⟨e, he⟩ := sch l a b (by omega) l.length 0 (by omega) 0 (.inl ⟨rfl, rfl⟩)
    refine ⟨e, fun k hk => ?_⟩
    obtain ⟨e1, e2⟩ := he k (by omega)
    exact ⟨by unfold QE.f; rw [if_neg hl]; exact e1, by unfold Qq.f; rw [if_neg hl]; exact e2⟩
end Go.Proofs.Ytbkfjmpnbalkaaa.Pure
