/- The pure law of TurnsPieces. -/
import Derived.Test.YtbkfjmpnbalkaaaPieD
namespace Go.Proofs.Ytbkfjmpnbalkaaa.Pure
open Go.RowKit Go.Proofs.Ytbkfjmpnbalkaaa.QTurnsPieces Go.Proofs.YtbkfjmpnbalkaaaW.PrintWords
theorem runP (n m : Nat) (hn : n ≤ 10) (hm : m ≤ 12) (arcs : List S92) (hA : ∀ j : Int, 0 ≤ j → j < (arcs.length : Int) → (Qs arcs j).f0 < (n : Int) + m ∧ ((Qs arcs j).f1 < (n : Int) ∨ (n : Int) + m ≤ (Qs arcs j).f1))
    (path : List Int) (hp : path.length ≤ 60) (N : Int) : ∀ d (i : Nat) (acc : List Int) (u : Int), i + d = path.length → acc.length ≤ i →
      ((i = 0 ∧ u = -1) ∨ (0 < i ∧ 0 ≤ rd path ((i : Int) - 1) ∧ rd path ((i : Int) - 1) < (arcs.length : Int) ∧ u = (Qs arcs (rd path ((i : Int) - 1))).f1)) →
      ∃ r, ∀ k, 3 * d + 1 ≤ k → Qz.l0 k n m acc u path path.length i N arcs = some r ∧ Ql.l0 k path n acc i N arcs = some r
  | 0, i, acc, u, hi, _, hu => by
    have hw : wrap64 ((n : Int) + (m : Int)) = (n : Int) + m := w64 (by omega) (by omega)
    rcases hu with ⟨h0, rfl⟩ | ⟨h0, u0, u1, rfl⟩
    · refine ⟨([], false), fun k hk => ?_⟩
      obtain ⟨k, rfl⟩ : ∃ k', k = k' + 1 := ⟨k - 1, by omega⟩
      refine ⟨?_, ?_⟩
      · rw [Qz.l0, if_neg (by omega), hw, if_pos (by omega)]
      · rw [Ql.l0, if_neg (by omega), if_pos (by omega)]
    · have hw1 : wrap64 ((path.length : Int) - 1) = (i : Int) - 1 := by rw [w64 (by omega) (by omega)]; omega
      obtain ⟨_, hA1⟩ := hA _ u0 u1
      by_cases hx : (Qs arcs (rd path ((i : Int) - 1))).f1 < (n : Int)
      · refine ⟨([], false), fun k hk => ?_⟩
        obtain ⟨k, rfl⟩ : ∃ k', k = k' + 1 := ⟨k - 1, by omega⟩
        refine ⟨?_, ?_⟩
        · rw [Qz.l0, if_neg (by omega), hw, if_pos (by omega)]
        · rw [Ql.l0, if_neg (by omega), if_neg (by omega), hw1, if_pos (by omega), if_pos (by omega), if_pos u0, if_pos u1, if_pos hx]
      · refine ⟨(acc, true), fun k hk => ?_⟩
        obtain ⟨k, rfl⟩ : ∃ k', k = k' + 1 := ⟨k - 1, by omega⟩
        refine ⟨?_, ?_⟩
        · rw [Qz.l0, if_neg (by omega), hw, if_neg (by omega)]
        · rw [Ql.l0, if_neg (by omega), if_neg (by omega), hw1, if_pos (by omega), if_pos (by omega), if_pos u0, if_pos u1, if_neg hx]
  | d + 1, i, acc, u, hi, hacc, hu => by
    have hw : wrap64 ((n : Int) + (m : Int)) = (n : Int) + m := w64 (by omega) (by omega)
    have hwi : wrap64 ((i : Int) + 1) = ((i + 1 : Nat) : Int) := by rw [w64 (by omega) (by omega)]; omega
    have i0 : (0 : Int) ≤ i := by omega
    have i1 : (i : Int) < (path.length : Int) := by omega
    by_cases hb : rd path i < 0 ∨ rd path i ≥ (arcs.length : Int)
    · refine ⟨([], false), fun k hk => ?_⟩
      obtain ⟨k, rfl⟩ : ∃ k', k = k' + 1 + 1 := ⟨k - 2, by omega⟩
      by_cases h0 : rd path i < 0
      · refine ⟨?_, ?_⟩
        · rw [Qz.l0, if_pos i1, if_pos i0, if_pos i1, if_pos h0, Qz.j1, if_pos rfl]
        · rw [Ql.l0, if_pos i1, if_pos i0, if_pos h0, Ql.j1, if_pos rfl]
      · refine ⟨?_, ?_⟩
        · rw [Qz.l0, if_pos i1, if_pos i0, if_pos i1, if_neg h0, Qz.j1, if_pos (by simp; omega)]
        · rw [Ql.l0, if_pos i1, if_pos i0, if_neg h0, Ql.j1, if_pos (by simp; omega)]
    · have p0 : ¬ rd path i < 0 := fun h => hb (.inl h)
      have p1 : ¬ rd path i ≥ (arcs.length : Int) := fun h => hb (.inr h)
      have p0' : 0 ≤ rd path i := by omega
      have p1' : rd path i < (arcs.length : Int) := by omega
      have pd : ¬ decide (rd path i ≥ (arcs.length : Int)) = true := by simp; omega
      obtain ⟨hA0, hA1⟩ := hA _ p0' p1'
      obtain ⟨r, hr⟩ := runP n m hn hm arcs hA path hp N d (i + 1) (if (Qs arcs (rd path i)).f1 < (n : Int) then acc ++ [(Qs arcs (rd path i)).f1] else acc) (Qs arcs (rd path i)).f1 (by omega) (by
        split
        · rw [List.length_append, List.length_singleton]
          omega
        · omega) (.inr (by
        have e : (((i + 1 : Nat) : Int) - 1) = (i : Int) := by omega
        rw [e]
        exact ⟨by omega, p0', p1', rfl⟩))
      have go : ∀ k, 3 * d + 1 ≤ k → Qz.j2 (k + 1) n m acc path path.length i false N arcs (Qs arcs (rd path i)).f0 (Qs arcs (rd path i)).f1 = some r ∧
          Ql.j2 (k + 1) path n acc i false N arcs (Qs arcs (rd path i)).f0 (Qs arcs (rd path i)).f1 = some r := fun k hk => by
        obtain ⟨h1, h2⟩ := hr k hk
        by_cases hx : (Qs arcs (rd path i)).f1 < (n : Int)
        · rw [if_pos hx] at h1 h2
          refine ⟨?_, ?_⟩
          · rw [Qz.j2, if_neg (by decide), if_pos hx, if_pos (by omega), hwi]
            exact h1
          · rw [Ql.j2, if_neg (by decide), if_pos hx, if_pos (by omega), hwi]
            exact h2
        · rw [if_neg hx] at h1 h2
          refine ⟨?_, ?_⟩
          · rw [Qz.j2, if_neg (by decide), if_neg hx, hwi]
            exact h1
          · rw [Ql.j2, if_neg (by decide), if_neg hx, hwi]
            exact h2
      have no : ∀ k, Qz.j2 (k + 1) n m acc path path.length i true N arcs (Qs arcs (rd path i)).f0 (Qs arcs (rd path i)).f1 = some ([], false) ∧
          Ql.j2 (k + 1) path n acc i true N arcs (Qs arcs (rd path i)).f0 (Qs arcs (rd path i)).f1 = some ([], false) := fun k => by
        rw [Qz.j2, Ql.j2, if_pos rfl, if_pos rfl]
        exact ⟨rfl, rfl⟩
      rcases hu with ⟨h0, rfl⟩ | ⟨h0, u0, u1, rfl⟩
      · subst h0
        have z : ((0 : Nat) : Int) = 0 := rfl
        by_cases hx : (Qs arcs (rd path ((0 : Nat) : Int))).f0 < (n : Int)
        · refine ⟨([], false), fun k hk => ?_⟩
          obtain ⟨k, rfl⟩ : ∃ k', k = k' + 1 + 1 + 1 := ⟨k - 3, by omega⟩
          refine ⟨?_, ?_⟩
          · rw [Qz.l0, if_pos i1, if_pos i0, if_pos i1, if_neg p0, Qz.j1, if_neg pd, if_pos p0', if_pos p1', if_pos z, if_pos hx]
            exact (no k).1
          · rw [Ql.l0, if_pos i1, if_pos i0, if_neg p0, Ql.j1, if_neg pd, if_pos i0, if_pos i1, if_pos p0', if_pos p1', if_pos z, if_pos hx]
            exact (no k).2
        · refine ⟨r, fun k hk => ?_⟩
          obtain ⟨k, rfl⟩ : ∃ k', k = k' + 1 + 1 + 1 := ⟨k - 3, by omega⟩
          refine ⟨?_, ?_⟩
          · rw [Qz.l0, if_pos i1, if_pos i0, if_pos i1, if_neg p0, Qz.j1, if_neg pd, if_pos p0', if_pos p1', if_pos z, if_neg hx, hw, if_neg (by omega), if_neg (by omega)]
            exact (go k (by omega)).1
          · rw [Ql.l0, if_pos i1, if_pos i0, if_neg p0, Ql.j1, if_neg pd, if_pos i0, if_pos i1, if_pos p0', if_pos p1', if_pos z, if_neg hx, if_neg (by omega)]
            exact (go k (by omega)).2
      · have hn0 : ¬ (i : Int) = 0 := by omega
        have hp1 : (i : Int) > 0 := by omega
        have hw1 : wrap64 ((i : Int) - 1) = (i : Int) - 1 := w64 (by omega) (by omega)
        have key : ∀ k, Qz.l0 (k + 1 + 1) n m acc (Qs arcs (rd path ((i : Int) - 1))).f1 path path.length i N arcs = Qz.j2 k n m acc path path.length i ((Qs arcs (rd path i)).f0 != (Qs arcs (rd path ((i : Int) - 1))).f1) N arcs (Qs arcs (rd path i)).f0 (Qs arcs (rd path i)).f1 ∧
            Ql.l0 (k + 1 + 1) path n acc i N arcs = Ql.j2 k path n acc i ((Qs arcs (rd path i)).f0 != (Qs arcs (rd path ((i : Int) - 1))).f1) N arcs (Qs arcs (rd path i)).f0 (Qs arcs (rd path i)).f1 := fun k => by
          refine ⟨?_, ?_⟩
          · rw [Qz.l0, if_pos i1, if_pos i0, if_pos i1, if_neg p0, Qz.j1, if_neg pd, if_pos p0', if_pos p1', if_neg hn0, if_pos hp1]
          · rw [Ql.l0, if_pos i1, if_pos i0, if_neg p0, Ql.j1, if_neg pd, if_pos i0, if_pos i1, if_pos p0', if_pos p1', if_neg hn0, if_pos hp1, hw1, if_pos (by omega), if_pos (by omega), if_pos u0, if_pos u1]
        by_cases hx : (Qs arcs (rd path i)).f0 = (Qs arcs (rd path ((i : Int) - 1))).f1
        · refine ⟨r, fun k hk => ?_⟩
          obtain ⟨k, rfl⟩ : ∃ k', k = k' + 1 + 1 + 1 := ⟨k - 3, by omega⟩
          rw [(key _).1, (key _).2, show ((Qs arcs (rd path i)).f0 != (Qs arcs (rd path ((i : Int) - 1))).f1) = false by simp [hx]]
          exact go k (by omega)
        · refine ⟨([], false), fun k hk => ?_⟩
          obtain ⟨k, rfl⟩ : ∃ k', k = k' + 1 + 1 + 1 := ⟨k - 3, by omega⟩
          rw [(key _).1, (key _).2, show ((Qs arcs (rd path i)).f0 != (Qs arcs (rd path ((i : Int) - 1))).f1) = true by simp [hx]]
          exact no k
theorem ints (l : List Int) (hl : l.length ≤ 1000000) : ∀ d (i : Nat), i + d = l.length → ∀ k, d + 1 ≤ k → QK.l0 k l l i = some true
  | 0, i, hi, k, hk => by
    obtain ⟨k, rfl⟩ : ∃ k', k = k' + 1 := ⟨k - 1, by omega⟩
    rw [QK.l0, if_neg (by omega)]
  | d + 1, i, hi, k, hk => by
    obtain ⟨k, rfl⟩ : ∃ k', k = k' + 1 := ⟨k - 1, by omega⟩
    have hw : wrap64 ((i : Int) + 1) = ((i + 1 : Nat) : Int) := by rw [w64 (by omega) (by omega)]; omega
    rw [QK.l0, if_pos (by omega), if_pos (by omega), if_pos (by omega), if_pos rfl, hw]
    exact ints l hl d (i + 1) (by omega) k (by omega)
theorem rd92_mem (l : List S92) (j : Int) (h0 : 0 ≤ j) (h1 : j < (l.length : Int)) : Qs l j ∈ l := by
  unfold Qs
  rw [List.getD_eq_getElem?_getD, List.getElem?_eq_getElem (by omega)]
  exact List.getElem_mem _
theorem lenP (n m : Nat) (arcs : List S92) (path : List Int) (N : Int) : ∀ k (acc : List Int) (u : Int) (i : Int) r, 0 ≤ i → acc.length ≤ i → i ≤ (path.length : Int) → path.length ≤ 60 → Qz.l0 k n m acc u path path.length i N arcs = some r → r.1.length ≤ 60
  | 0, _, _, _, _, _, _, _, _, h => by simp [Qz.l0] at h
  | k + 1, acc, u, i, r, h0, h1, h2, h3, h => by
    have hw : i < (path.length : Int) → wrap64 (i + 1) = i + 1 := fun h => w64 (by omega) (by omega)
    have J : ∀ k' fl f0 f1, k' < k + 1 → i < (path.length : Int) → Qz.j2 k' n m acc path path.length i fl N arcs f0 f1 = some r → r.1.length ≤ 60 := fun k' fl f0 f1 hk hi hj => by
      cases k' with
      | zero => simp [Qz.j2] at hj
      | succ k' =>
        rw [Qz.j2, hw hi] at hj
        split at hj
        · cases hj; simp
        · split at hj
          · split at hj
            · exact lenP n m arcs path N k' _ _ _ r (by omega) (by rw [List.length_append, List.length_singleton]; omega) (by omega) h3 hj
            · cases hj
          · exact lenP n m arcs path N k' _ _ _ r (by omega) (by omega) (by omega) h3 hj
    have J1 : ∀ k' fl x, k' < k + 1 → i < (path.length : Int) → Qz.j1 k' n m acc u i x path path.length i fl N arcs = some r → r.1.length ≤ 60 := fun k' fl x hk hi hj => by
      cases k' with
      | zero => simp [Qz.j1] at hj
      | succ k' =>
        rw [Qz.j1] at hj
        repeat' split at hj
        all_goals first | exact J _ _ _ _ (by omega) hi hj | (cases hj; done) | (cases hj; simp)
    rw [Qz.l0] at h
    by_cases hi : i < (path.length : Int)
    · rw [if_pos hi, if_pos h0, if_pos hi] at h
      split at h
      · exact J1 _ _ _ (by omega) hi h
      · exact J1 _ _ _ (by omega) hi h
    · rw [if_neg hi] at h
      split at h
      · cases h; simp
      · cases h
        show acc.length ≤ 60
        omega
termination_by k => k
theorem TurnsPieces (l0_0 : List Int) (l0_1 : List S158) (l0_2 : List S58) (l1 : List Int) (l2 : List S42) : ∃ k, QB.f k l0_0 l0_1 l0_2 l1 l2 = some true := by
  obtain ⟨b, hb, hk⟩ := few l2 l0_0 l0_1 l0_2
  have triv : QB.j0 60 l1 l2 true l0_0 l0_1 l0_2 = some true := by
    rw [QB.j0, if_pos rfl]
    rfl
  cases b with
  | false =>
    refine ⟨60, ?_⟩
    unfold QB.f
    rw [hk 60 (by omega), Option.bind_some, if_neg (by decide)]
    exact triv
  | true =>
    obtain ⟨hP, hL⟩ := hb rfl
    by_cases hl : (l1.length : Int) > 60
    · refine ⟨60, ?_⟩
      unfold QB.f
      rw [hk 60 (by omega), Option.bind_some, if_pos rfl, decide_eq_true hl]
      exact triv
    · obtain ⟨g, hg, ⟨K1, h1'⟩, ⟨K2, h2'⟩⟩ := expand l0_0 l0_1 l0_2 l2 hP hL
      have h1 : ∀ k, K1 ≤ k → Q3.f k l0_0 l0_1 l0_2 l2 = some g := h1'
      have h2 : ∀ k, K2 ≤ k → Qm.f k l0_0 l0_1 l0_2 l2 = some g := h2'
      obtain ⟨r, hr⟩ := runP l0_2.length l0_0.length hP hL g.2 (fun j h0 h1 => hg _ (rd92_mem g.2 j h0 h1)) l1 (by omega) g.1 l1.length 0 [] (-1) (by omega) (by simp) (.inl ⟨rfl, rfl⟩)
      refine ⟨K1 + K2 + 300 + 1, ?_⟩
      have e1 : Qz.f (K1 + K2 + 300) l0_0 l0_1 l0_2 l1 l2 = some r := by
        unfold Qz.f
        rw [h1 _ (by omega), Option.bind_some]
        exact (hr _ (by omega)).1
      have e2 : Ql.f (K1 + K2 + 300) l0_0 l0_1 l0_2 l1 l2 = some r := by
        unfold Ql.f
        rw [h2 _ (by omega), Option.bind_some]
        exact (hr _ (by omega)).2
      have hlen : r.1.length ≤ 60 := lenP l0_2.length l0_0.length g.2 l1 g.1 _ [] (-1) 0 r (by omega) (by simp) (by omega) (by omega) (hr 300 (by omega)).1
      have e3 : QZ.f (K1 + K2 + 300) r.1 r.1 = some true := by
        unfold QZ.f QK.f
        rw [if_pos rfl]
        have := ints r.1 (by omega) r.1.length 0 (by omega) (K1 + K2 + 300) (by omega)
        rw [show ((0 : Nat) : Int) = 0 from rfl] at this
        rw [this]
        rfl
      unfold QB.f
      rw [hk _ (by omega), Option.bind_some, if_pos rfl, QB.j0, if_neg (by simp; omega), e1, Option.bind_some, e2, Option.bind_some, if_pos (by simp), e3, Option.bind_some, if_pos rfl]
      rfl
end Go.Proofs.Ytbkfjmpnbalkaaa.Pure
