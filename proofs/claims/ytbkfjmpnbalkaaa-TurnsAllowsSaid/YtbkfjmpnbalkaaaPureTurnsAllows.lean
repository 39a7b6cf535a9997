/- The pure law of TurnsAllows. -/
import Derived.Test.YtbkfjmpnbalkaaaPureC
namespace Go.Proofs.Ytbkfjmpnbalkaaa.Pure
open Go.RowKit Go.Proofs.Ytbkfjmpnbalkaaa.QTurnsAllows Go.Proofs.YtbkfjmpnbalkaaaW.PrintWords
theorem allowed (L0 : List Int) (L1 : List S158) (P : List S58) (T : List S42) (a2 a3 : Int) (hP : P.length ≤ 10) (hL : L0.length ≤ 12) : ∃ b, turns_Allowed.f 60 L0 L1 P T a2 a3 = some b ∧ mapmakerref47_Allowed.f 60 L0 L1 P T a2 a3 = some b := by
  obtain ⟨e, hr, he⟩ := check L0 L1 P hP hL
  obtain ⟨c1, c2⟩ := he 60 (by omega)
  unfold turns_Allowed.f mapmakerref47_Allowed.f
  rw [c1, c2, Option.bind_some, Option.bind_some]
  by_cases h : e = 0
  · rw [if_pos h, if_pos h]
    by_cases g : 0 ≤ a2 ∧ a2 < (P.length : Int) ∧ 0 ≤ a3 ∧ a3 < (P.length : Int)
    · obtain ⟨g0, g1, g2, g3⟩ := g
      have n0 : ¬ a2 < 0 := by omega
      have n1 : ¬ a2 ≥ (P.length : Int) := by omega
      have n2 : ¬ a3 < 0 := by omega
      have n3 : ¬ a3 ≥ (P.length : Int) := by omega
      simp only [if_neg n0, if_neg n1, if_neg n2, if_neg n3]
      by_cases hf : (rd_T58 P a2).f1 = (rd_T58 P a3).f0
      · obtain ⟨out, ho, hO, hl⟩ := leaving L0 L1 P hP hL (hr h)
        have r3 := hr h a3.toNat (by omega)
        have r2 := hr h a2.toNat (by omega)
        rw [Int.toNat_of_nonneg g2] at r3
        rw [Int.toNat_of_nonneg g0] at r2
        obtain ⟨q0, q1, _, _⟩ := r3
        obtain ⟨_, _, q2, q3⟩ := r2
        obtain ⟨v, hv⟩ : ∃ v : Nat, (rd_T58 P a3).f0 = (v : Int) := ⟨(rd_T58 P a3).f0.toNat, by omega⟩
        refine ⟨refB L0 P T (rd_T58 P a2) (rd_T58 P a3), ?_, ?_⟩
        · rw [if_pos hf, hl 60 (by omega), Option.bind_some, if_pos ⟨q0, by omega⟩, hv, Int.toNat_natCast]
          unfold turns_permitted.f
          have hall : ∀ i ∈ out.getD v [], 0 ≤ i ∧ i < (P.length : Int) := fun i hi => by
            obtain ⟨j, hj, rfl, _⟩ := (hO v i).1 hi
            exact ⟨by omega, by omega⟩
          rw [if_pos ⟨g0, g1, g2, g3, q2, q3, hall⟩, perm_ref L0 P T out hO a2 a3 v hv hf]
        · rw [if_pos hf, if_pos ⟨q2, q3⟩]
      · exact ⟨false, by rw [if_neg hf], by rw [if_neg hf]⟩
    · refine ⟨false, ?_, ?_⟩
      all_goals (repeat' split)
      all_goals first | rfl | (exfalso; omega)
  · exact ⟨false, by rw [if_neg h], by rw [if_neg h]⟩
theorem TurnsAllows (l0_0 : List Int) (l0_1 : List S158) (l0_2 : List S58) (l1 : List S42) (a2 a3 : Int) : ∃ k, mapmakerlaw47_TurnsAllows.f k l0_0 l0_1 l0_2 l1 a2 a3 = some true := by
  refine ⟨60, ?_⟩
  obtain ⟨b, hb, hk⟩ := few l1 l0_0 l0_1 l0_2
  unfold mapmakerlaw47_TurnsAllows.f
  rw [hk 60 (by omega), Option.bind_some]
  cases b with
  | false => rfl
  | true =>
    obtain ⟨hP, hL⟩ := hb rfl
    obtain ⟨b, h1, h2⟩ := allowed l0_0 l0_1 l0_2 l1 a2 a3 hP hL
    obtain ⟨e, _, he⟩ := check l0_0 l0_1 l0_2 hP hL
    obtain ⟨c1, c2⟩ := he 60 (by omega)
    have hs : mapmakerref47_Source.f 60 l0_0 l0_1 l0_2 a2 = turns_Source.f 60 l0_0 l0_1 l0_2 a2 := by
      unfold mapmakerref47_Source.f turns_Source.f
      rw [c1, c2]
    have ht : mapmakerref47_Target.f 60 l0_0 l0_1 l0_2 a2 = turns_Target.f 60 l0_0 l0_1 l0_2 a2 := by
      unfold mapmakerref47_Target.f turns_Target.f
      rw [c1, c2]
    obtain ⟨s, hs'⟩ : ∃ s, turns_Source.f 60 l0_0 l0_1 l0_2 a2 = some s := by
      unfold turns_Source.f
      rw [c1, Option.bind_some]
      repeat' split
      all_goals exact ⟨_, rfl⟩
    obtain ⟨t, ht'⟩ : ∃ t, turns_Target.f 60 l0_0 l0_1 l0_2 a2 = some t := by
      unfold turns_Target.f
      rw [c1, Option.bind_some]
      repeat' split
      all_goals exact ⟨_, rfl⟩
    rw [if_pos rfl, h1, h2, Option.bind_some, Option.bind_some, if_pos (by simp), hs, hs', Option.bind_some, Option.bind_some, if_pos rfl, ht, ht', Option.bind_some, Option.bind_some, if_pos rfl]
    rfl
end Go.Proofs.Ytbkfjmpnbalkaaa.Pure
