/- The two expanded graphs are the same. -/
import Derived.Test.YtbkfjmpnbalkaaaPieC
namespace Go.Proofs.Ytbkfjmpnbalkaaa.Pure
open Go.RowKit Go.Proofs.Ytbkfjmpnbalkaaa.QTurnsPieces Go.Proofs.YtbkfjmpnbalkaaaW.PrintWords
def leavesOf (P : List S58) (i v : Nat) : List Nat := (List.range i).filter fun (j : Nat) => decide ((Qh P j).f0 = (v : Int))
def Lists2 (P : List S58) (i : Nat) (X : List (List Int)) : Prop := ∀ v : Nat, X.getD v [] = (leavesOf P i v).map fun (j : Nat) => (j : Int)
theorem leavesOf_succ (P : List S58) (i v : Nat) : leavesOf P (i + 1) v = if (Qh P i).f0 = (v : Int) then leavesOf P i v ++ [i] else leavesOf P i v := by
  unfold leavesOf
  rw [List.range_succ, List.filter_append]
  by_cases h : (Qh P i).f0 = (v : Int)
  · rw [if_pos h]
    simp [h]
  · rw [if_neg h]
    simp [h]
theorem leavesOf_length (P : List S58) (i v : Nat) : (leavesOf P i v).length ≤ i := by
  have := List.length_filter_le (fun (j : Nat) => decide ((Qh P j).f0 = (v : Int))) (List.range i)
  simpa [leavesOf] using this
theorem lv2 (P : List S58) (hP : P.length ≤ 10) (N : Nat) (hr : ∀ j : Nat, j < P.length → InR N (Qh P j)) : ∀ n (i : Nat) (X : List (List Int)), i + n = P.length → X.length = N → Lists2 P i X →
    ∃ out, out.length = N ∧ Lists2 P P.length out ∧ ∀ k, n + 1 ≤ k → QJ.l0 k X P P.length i = some out
  | 0, i, X, hi, hX, hL => by
    obtain rfl : i = P.length := by omega
    refine ⟨X, hX, hL, fun k hk => ?_⟩
    obtain ⟨k, rfl⟩ : ∃ k', k = k' + 1 := ⟨k - 1, by omega⟩
    unfold QJ.l0
    rw [if_neg (by omega)]
  | n + 1, i, X, hi, hX, hL => by
    have h1 : (i : Int) < (P.length : Int) := by omega
    have hw : wrap64 ((i : Int) + 1) = ((i + 1 : Nat) : Int) := by rw [w64 (by omega) (by omega)]; omega
    obtain ⟨r0, r1, _, _⟩ := hr i (by omega)
    obtain ⟨c, hc⟩ : ∃ c : Nat, (Qh P i).f0 = (c : Int) := ⟨(Qh P i).f0.toNat, by omega⟩
    have hcl : c < X.length := by omega
    have hcc : (X.getD c []).length ≤ i := by rw [hL c, List.length_map]; exact leavesOf_length P i c
    obtain ⟨out, ho, hO, h⟩ := lv2 P hP N hr n (i + 1) (X.set c (X.getD c [] ++ [(i : Int)])) (by omega) (by simp [hX]) (fun v => by
      rw [getD_set X c v _ _ hcl, leavesOf_succ]
      by_cases hv : v = c
      · subst hv
        rw [if_pos rfl, if_pos hc, hL, List.map_append]
        rfl
      · rw [if_neg hv, if_neg (fun h => hv (by omega)), hL])
    refine ⟨out, ho, hO, fun k hk => ?_⟩
    obtain ⟨k, rfl⟩ : ∃ k', k = k' + 1 := ⟨k - 1, by omega⟩
    unfold QJ.l0
    rw [if_pos h1, if_pos (by omega), if_pos h1, if_pos r0, if_pos (by omega), hc, show rd_L7 X (c : Int) = X.getD c [] from rfl, if_pos (by omega), hw]
    exact h k (by omega)
theorem lists_of {P : List S58} {i : Nat} {X : List (List Int)} (h : Lists2 P i X) : Lists P i X := fun v x => by
  rw [h v, List.mem_map]
  constructor
  · rintro ⟨j, hj, rfl⟩
    rw [leavesOf, List.mem_filter, List.mem_range, decide_eq_true_eq] at hj
    exact ⟨j, hj.1, rfl, hj.2⟩
  · rintro ⟨j, hj, rfl, hf⟩
    exact ⟨j, by rw [leavesOf, List.mem_filter, List.mem_range, decide_eq_true_eq]; exact ⟨hj, hf⟩, rfl⟩
theorem leaving2 (L0 : List Int) (L1 : List S158) (P : List S58) (hP : P.length ≤ 10) (hL : L0.length ≤ 12) (hr : ∀ j : Nat, j < P.length → InR L0.length (Qh P j)) :
    ∃ out, out.length = L0.length ∧ Lists2 P P.length out ∧ ∀ k, 11 ≤ k → QJ.f k L0 L1 P = some out := by
  obtain ⟨out, ho, hO, h⟩ := lv2 P hP L0.length hr P.length 0 (List.replicate L0.length []) (by omega) (by simp) (fun v => by
    have : leavesOf P 0 v = [] := rfl
    rw [this, List.getD_eq_getElem?_getD, List.getElem?_replicate]
    split <;> rfl)
  refine ⟨out, ho, hO, fun k hk => ?_⟩
  unfold QJ.f
  rw [if_pos (by omega), if_pos (by omega)]
  exact h k (by omega)
/-- May piece b follow piece a? -/
def okB (L0 : List Int) (P : List S58) (T : List S42) (a b : Nat) : Bool := decide ((Qh P a).f1 = (Qh P b).f0) && refB L0 P T (Qh P a) (Qh P b)
def arcsAt (L0 : List Int) (P : List S58) (T : List S42) (a : Nat) (l : List Nat) : List S92 := (l.filter (okB L0 P T a)).map fun (b : Nat) => ⟨(a : Int), (b : Int)⟩
def arcsMid (L0 : List Int) (P : List S58) (T : List S42) : List Nat → List S92
  | [] => []
  | a :: l => arcsAt L0 P T a (List.range P.length) ++ arcsMid L0 P T l
def arcsAll (L0 : List Int) (P : List S58) (T : List S42) : List S92 := ex1 P.length 0 P ++ arcsMid L0 P T (List.range P.length) ++ ex3 ((P.length : Int) + (L0.length : Int)) 0 P
theorem arcsAt_length (L0 : List Int) (P : List S58) (T : List S42) (a : Nat) (l : List Nat) : (arcsAt L0 P T a l).length ≤ l.length := by
  unfold arcsAt
  rw [List.length_map]
  exact List.length_filter_le _ _
theorem arcsMid_length (L0 : List Int) (P : List S58) (T : List S42) : ∀ l : List Nat, (arcsMid L0 P T l).length ≤ l.length * P.length
  | [] => by simp [arcsMid]
  | a :: l => by
    have h1 := arcsAt_length L0 P T a (List.range P.length)
    have h2 := arcsMid_length L0 P T l
    rw [arcsMid, List.length_append, List.length_cons, Nat.add_mul]
    rw [List.length_range] at h1
    omega
theorem exIn_eq (ok : Int → Option Bool) (okb : Nat → Bool) (a : Nat) : ∀ (l : List Nat) (acc : List S92), acc.length + l.length ≤ 7000000000000 → (∀ b ∈ l, ok (b : Int) = some (okb b)) →
    exIn ok (a : Int) (l.map fun (j : Nat) => (j : Int)) acc = some (acc ++ (l.filter okb).map fun (b : Nat) => ⟨(a : Int), (b : Int)⟩)
  | [], acc, _, _ => by simp [exIn]
  | b :: l, acc, hl, hb => by
    rw [List.length_cons] at hl
    rw [List.map_cons, exIn, if_pos (by omega), hb b (List.mem_cons_self ..), Option.bind_some]
    have hb' : ∀ c ∈ l, ok (c : Int) = some (okb c) := fun c hc => hb c (List.mem_cons_of_mem _ hc)
    by_cases h : okb b = true
    · rw [if_pos h, exIn_eq ok okb a l _ (by rw [List.length_append, List.length_singleton]; omega) hb', List.filter_cons_of_pos h, List.map_cons, List.append_assoc]
      rfl
    · rw [if_neg h, exIn_eq ok okb a l _ (by omega) hb', List.filter_cons_of_neg h]
theorem filter_leaves (L0 : List Int) (P : List S58) (T : List S42) (a v : Nat) (hv : (Qh P a).f1 = (v : Int)) (n : Nat) : (leavesOf P n v).filter (fun (b : Nat) => refB L0 P T (Qh P a) (Qh P b)) = (List.range n).filter (okB L0 P T a) := by
  unfold leavesOf
  rw [List.filter_filter]
  congr 1
  funext b
  unfold okB
  rw [hv, Bool.and_comm]
  congr 1
  exact decide_eq_decide.2 ⟨fun h => h.symm, fun h => h.symm⟩
theorem exOut_eq (L0 : List Int) (L1 : List S158) (P : List S58) (T : List S42) (out : List (List Int)) (hP : P.length ≤ 10) (hO : Lists2 P P.length out) (hr : ∀ j : Nat, j < P.length → InR L0.length (Qh P j)) (hl : out.length = L0.length) :
    ∀ n (a : Nat) (acc : List S92), a + n = P.length → acc.length + n * 10 ≤ 1000000 →
      exOut (fun a b => Jaa.f L0 L1 P T (out.getD (Qh P a).f1.toNat []) a b) out (a : Int) (P.drop a) acc = some (acc ++ arcsMid L0 P T (List.range' a n))
  | 0, a, acc, ha, _ => by
    rw [List.drop_eq_nil_of_le (by omega)]
    simp [exOut, arcsMid]
  | n + 1, a, acc, ha, hacc => by
    obtain ⟨_, _, q0, q1⟩ := hr a (by omega)
    obtain ⟨v, hv⟩ : ∃ v : Nat, (Qh P a).f1 = (v : Int) := ⟨(Qh P a).f1.toNat, by omega⟩
    have hvv : (Qh P a).f1.toNat = v := by omega
    have hlen := leavesOf_length P P.length v
    rw [drop58 P a (by omega), exOut, if_pos ⟨q0, by omega⟩, hvv, hO v]
    rw [exIn_eq _ (fun (b : Nat) => refB L0 P T (Qh P a) (Qh P b)) a _ acc (by omega) (fun b hb => by
      rw [leavesOf, List.mem_filter, List.mem_range, decide_eq_true_eq] at hb
      have hf : (Qh P a).f1 = (Qh P b).f0 := by rw [hv, hb.2]
      rw [← hO v]
      unfold Jaa.f
      have hall : ∀ i ∈ out.getD v [], 0 ≤ i ∧ i < (P.length : Int) := fun i hi => by
        obtain ⟨j, hj, rfl, _⟩ := (lists_of hO v i).1 hi
        exact ⟨by omega, by omega⟩
      rw [if_pos ⟨by omega, by omega, by omega, by omega, q0, q1, hall⟩, perm_ref L0 P T out (lists_of hO) a b v hb.2 hf])]
    rw [Option.bind_some, filter_leaves L0 P T a v hv]
    have h1 := arcsAt_length L0 P T a (List.range P.length)
    rw [List.length_range] at h1
    have e : ((a : Int) + 1) = ((a + 1 : Nat) : Int) := by omega
    rw [e]
    have := exOut_eq L0 L1 P T out hP hO hr hl n (a + 1) (acc ++ arcsAt L0 P T a (List.range P.length)) (by omega) (by rw [List.length_append]; omega)
    unfold arcsAt at this
    rw [this, List.range'_succ, arcsMid, arcsAt, List.append_assoc]
theorem expandT (L0 : List Int) (L1 : List S158) (P : List S58) (T : List S42) (hP : P.length ≤ 10) (hL : L0.length ≤ 12) (hr : ∀ j : Nat, j < P.length → InR L0.length (Qh P j)) (hc : ∀ k, 60 ≤ k → QA.f k L0 L1 P = some 0) :
    ∀ k, 60 ≤ k → Q3.f k L0 L1 P T = some ((P.length : Int) + 2 * (L0.length : Int), arcsAll L0 P T) := fun k hk => by
  obtain ⟨out, ho, hO, h⟩ := leaving2 L0 L1 P hP hL hr
  unfold Q3.f
  have hm := arcsMid_length L0 P T (List.range P.length)
  rw [List.length_range] at hm
  have hm' : P.length * P.length ≤ 10 * 10 := Nat.mul_le_mul hP hP
  rw [hc k hk, Option.bind_some, if_pos rfl, if_pos ⟨by omega, by omega⟩, h k (by omega), Option.bind_some]
  have := exOut_eq L0 L1 P T out hP hO hr ho P.length 0 (ex1 P.length 0 P) (by omega) (by rw [ex1_length]; omega)
  rw [List.drop_zero, ← List.range_eq_range'] at this
  rw [show ((0 : Nat) : Int) = 0 from rfl] at this
  rw [this, Option.bind_some, if_pos (by rw [List.length_append, ex1_length]; omega)]
  rfl
theorem refAllowed (L0 : List Int) (L1 : List S158) (P : List S58) (T : List S42) (hr : ∀ j : Nat, j < P.length → InR L0.length (Qh P j)) (hc : ∀ k, 60 ≤ k → Qn.f k L0 L1 P = some 0) (a b : Nat) (ha : a < P.length) (hb : b < P.length) (k : Nat) (hk : 60 ≤ k) :
    QN.f k L0 L1 P T a b = some (okB L0 P T a b) := by
  obtain ⟨_, _, q0, q1⟩ := hr a ha
  unfold QN.f okB
  rw [hc k hk, Option.bind_some, if_pos rfl, if_neg (by omega), if_neg (by omega), if_neg (by omega), if_neg (by omega)]
  by_cases h : (Qh P a).f1 = (Qh P b).f0
  · rw [if_pos h, if_pos ⟨q0, q1⟩, decide_eq_true h, Bool.true_and]
  · rw [if_neg h, decide_eq_false h, Bool.false_and]
theorem ev_later {α : Type} {g f : Nat → Option α} {r : α} (K : Nat) (h : ∀ k, K ≤ k → g (k + 1) = f k) (e : Ev f r) : Ev g r := by
  obtain ⟨M, hM⟩ := e
  refine ⟨K + M + 1, fun k hk => ?_⟩
  obtain ⟨k, rfl⟩ : ∃ k', k = k' + 1 := ⟨k - 1, by omega⟩
  rw [h k (by omega)]
  exact hM k (by omega)
theorem ref3 (L0 : List Int) (L1 : List S158) (P : List S58) (hP : P.length ≤ 10) (hL : L0.length ≤ 12) (hr : ∀ j : Nat, j < P.length → InR L0.length (Qh P j)) (hc : ∀ k, 60 ≤ k → Qn.f k L0 L1 P = some 0) (N : Int) :
    ∀ n (i : Nat) (acc : List S92), i + n = P.length → acc.length + n ≤ 1000000 →
      Ev (fun k => Qm.l3 k P.length i L0 L1 P N acc) (N, acc ++ ex3 ((P.length : Int) + (L0.length : Int)) i (P.drop i))
  | 0, i, acc, hi, _ => by
    refine ev_later (f := fun _ => some _) 0 (fun k _ => ?_) (Ev.now _)
    unfold Qm.l3
    rw [if_neg (by omega), List.drop_eq_nil_of_le (by omega), ex3, List.append_nil]
  | n + 1, i, acc, hi, hacc => by
    obtain ⟨_, _, q0, q1⟩ := hr i (by omega)
    have hw : wrap64 ((i : Int) + 1) = ((i + 1 : Nat) : Int) := by rw [w64 (by omega) (by omega)]; omega
    have ih := ref3 L0 L1 P hP hL hr hc N n (i + 1) (acc ++ [⟨(i : Int), wrap64 ((P.length : Int) + (L0.length : Int) + (Qh P i).f1)⟩]) (by omega) (by rw [List.length_append, List.length_singleton]; omega)
    rw [drop58 P i (by omega), ex3, show ((i : Int) + 1) = ((i + 1 : Nat) : Int) by omega]
    rw [List.append_assoc] at ih
    refine ev_later 60 (fun k hk => ?_) ih
    rw [Qm.l3, if_pos (by omega), if_pos (by omega), if_pos (by omega), QW.f, hc k hk, Option.bind_some, if_pos rfl, if_neg (by omega), if_neg (by omega), Option.bind_some, if_pos (by omega), hw, w64 (n := (P.length : Int) + (L0.length : Int)) (by omega) (by omega)]
theorem ref2 (L0 : List Int) (L1 : List S158) (P : List S58) (T : List S42) (hP : P.length ≤ 10) (hr : ∀ j : Nat, j < P.length → InR L0.length (Qh P j)) (hc : ∀ k, 60 ≤ k → Qn.f k L0 L1 P = some 0) (N : Int) (a : Nat) (ha : a < P.length) (r : Int × List S92) :
    ∀ n (b : Nat) (acc : List S92), b + n = P.length → acc.length + n ≤ 1000000 →
      Ev (fun k => Qm.l1 k T P.length ((a + 1 : Nat) : Int) L0 L1 P N (acc ++ arcsAt L0 P T a (List.range' b n))) r →
      Ev (fun k => Qm.l2 k T P.length a b L0 L1 P N acc) r
  | 0, b, acc, hb, _, h => by
    refine ev_later 0 (fun k _ => ?_) h
    rw [Qm.l2, if_neg (by omega)]
    have hw : wrap64 ((a : Int) + 1) = ((a + 1 : Nat) : Int) := by rw [w64 (by omega) (by omega)]; omega
    rw [hw]
    simp [arcsAt]
  | n + 1, b, acc, hb, hacc, h => by
    have hw : wrap64 ((b : Int) + 1) = ((b + 1 : Nat) : Int) := by rw [w64 (by omega) (by omega)]; omega
    have hal := fun k hk => refAllowed L0 L1 P T hr hc a b ha (by omega) k hk
    rw [List.range'_succ] at h
    unfold arcsAt at h
    by_cases ho : okB L0 P T a b = true
    · rw [List.filter_cons_of_pos ho, List.map_cons] at h
      have ih := ref2 L0 L1 P T hP hr hc N a ha r n (b + 1) (acc ++ [⟨(a : Int), (b : Int)⟩]) (by omega) (by rw [List.length_append, List.length_singleton]; omega) (by
        unfold arcsAt
        rw [List.append_assoc]
        exact h)
      refine ev_later 60 (fun k hk => ?_) ih
      rw [Qm.l2, if_pos (by omega), hal k hk, Option.bind_some, if_pos ho, if_pos (by omega), hw]
    · rw [List.filter_cons_of_neg ho] at h
      have ih := ref2 L0 L1 P T hP hr hc N a ha r n (b + 1) acc (by omega) (by omega) h
      refine ev_later 60 (fun k hk => ?_) ih
      rw [Qm.l2, if_pos (by omega), hal k hk, Option.bind_some, if_neg ho, hw]
theorem ref1 (L0 : List Int) (L1 : List S158) (P : List S58) (T : List S42) (hP : P.length ≤ 10) (hL : L0.length ≤ 12) (hr : ∀ j : Nat, j < P.length → InR L0.length (Qh P j)) (hc : ∀ k, 60 ≤ k → Qn.f k L0 L1 P = some 0) (N : Int) :
    ∀ n (a : Nat) (acc : List S92), a + n = P.length → acc.length + n * 10 ≤ 100000 →
      Ev (fun k => Qm.l1 k T P.length a L0 L1 P N acc) (N, acc ++ arcsMid L0 P T (List.range' a n) ++ ex3 ((P.length : Int) + (L0.length : Int)) 0 P)
  | 0, a, acc, ha, hacc => by
    have h := ref3 L0 L1 P hP hL hr hc N P.length 0 acc (by omega) (by omega)
    rw [List.drop_zero] at h
    refine ev_later 0 (fun k _ => ?_) (show Ev _ (N, acc ++ arcsMid L0 P T (List.range' a 0) ++ ex3 ((P.length : Int) + (L0.length : Int)) 0 P) by simpa [arcsMid] using h)
    rw [Qm.l1, if_neg (by omega)]
  | n + 1, a, acc, ha, hacc => by
    have h1 := arcsAt_length L0 P T a (List.range P.length)
    rw [List.length_range] at h1
    have ih := ref1 L0 L1 P T hP hL hr hc N n (a + 1) (acc ++ arcsAt L0 P T a (List.range P.length)) (by omega) (by rw [List.length_append]; omega)
    rw [List.range'_succ, arcsMid]
    have h2 := ref2 L0 L1 P T hP hr hc N a (by omega) _ P.length 0 acc (by omega) (by omega) (by rw [← List.range_eq_range']; exact ih)
    rw [List.append_assoc acc] at h2
    refine ev_later 0 (fun k _ => ?_) h2
    rw [Qm.l1, if_pos (by omega)]
    rfl
theorem ref0 (L0 : List Int) (L1 : List S158) (P : List S58) (T : List S42) (hP : P.length ≤ 10) (hr : ∀ j : Nat, j < P.length → InR L0.length (Qh P j)) (hc : ∀ k, 60 ≤ k → Qn.f k L0 L1 P = some 0) (N : Int) (r : Int × List S92) :
    ∀ n (i : Nat) (acc : List S92), i + n = P.length → acc.length + n ≤ 1000000 →
      Ev (fun k => Qm.l1 k T P.length 0 L0 L1 P N (acc ++ ex1 P.length i (P.drop i))) r →
      Ev (fun k => Qm.l0 k T P.length i L0 L1 P N acc) r
  | 0, i, acc, hi, _, h => by
    rw [List.drop_eq_nil_of_le (by omega), ex1, List.append_nil] at h
    refine ev_later 0 (fun k _ => ?_) h
    rw [Qm.l0, if_neg (by omega)]
  | n + 1, i, acc, hi, hacc, h => by
    obtain ⟨q0, q1, _, _⟩ := hr i (by omega)
    have hw : wrap64 ((i : Int) + 1) = ((i + 1 : Nat) : Int) := by rw [w64 (by omega) (by omega)]; omega
    rw [drop58 P i (by omega), ex1, show ((i : Int) + 1) = ((i + 1 : Nat) : Int) by omega] at h
    have ih := ref0 L0 L1 P T hP hr hc N r n (i + 1) (acc ++ [⟨wrap64 ((P.length : Int) + (Qh P i).f0), (i : Int)⟩]) (by omega) (by rw [List.length_append, List.length_singleton]; omega) (by
      rw [List.append_assoc]
      exact h)
    refine ev_later 60 (fun k hk => ?_) ih
    rw [Qm.l0, if_pos (by omega), if_pos (by omega), if_pos (by omega)]
    unfold QY.f
    rw [hc k hk, Option.bind_some, if_pos rfl, if_neg (by omega), if_neg (by omega), Option.bind_some, if_pos (by omega), hw]
theorem expandR (L0 : List Int) (L1 : List S158) (P : List S58) (T : List S42) (hP : P.length ≤ 10) (hL : L0.length ≤ 12) (hr : ∀ j : Nat, j < P.length → InR L0.length (Qh P j)) (hc : ∀ k, 60 ≤ k → Qn.f k L0 L1 P = some 0) :
    Ev (fun k => Qm.f k L0 L1 P T) ((P.length : Int) + 2 * (L0.length : Int), arcsAll L0 P T) := by
  have h1 := ref1 L0 L1 P T hP hL hr hc ((P.length : Int) + 2 * (L0.length : Int)) P.length 0 (ex1 P.length 0 P) (by omega) (by rw [ex1_length]; omega)
  rw [← List.range_eq_range'] at h1
  have h0 := ref0 L0 L1 P T hP hr hc ((P.length : Int) + 2 * (L0.length : Int)) _ P.length 0 [] (by omega) (by simp; omega) (by rw [List.drop_zero, List.nil_append]; exact h1)
  obtain ⟨K, hK⟩ := h0
  refine ⟨K + 60, fun k hk => ?_⟩
  show Qm.f k L0 L1 P T = _
  unfold Qm.f
  rw [hc k (by omega), Option.bind_some, if_pos rfl, w64 (n := 2 * (L0.length : Int)) (by omega) (by omega), w64 (by omega) (by omega)]
  exact hK k (by omega)
/-- Each arc begins below n + m; it ends below n, or at n + m or above. -/
def Parts (n m : Int) (arcs : List S92) : Prop := ∀ x ∈ arcs, x.f0 < n + m ∧ (x.f1 < n ∨ n + m ≤ x.f1)
theorem parts1 (n : Nat) (m : Nat) (hn : n ≤ 10) (hm : m ≤ 12) (P0 : List S58) (hr : ∀ j : Nat, j < P0.length → InR m (Qh P0 j)) : ∀ (d i : Nat), i + d = P0.length → P0.length = n → Parts n m (ex1 n i (P0.drop i))
  | 0, i, hi, _ => by
    rw [List.drop_eq_nil_of_le (by omega), ex1]
    intro x hx
    cases hx
  | d + 1, i, hi, hn' => by
    obtain ⟨q0, q1, _, _⟩ := hr i (by omega)
    rw [drop58 P0 i (by omega), ex1, show ((i : Int) + 1) = ((i + 1 : Nat) : Int) by omega]
    intro x hx
    rcases List.mem_cons.1 hx with rfl | hx
    · rw [w64 (by omega) (by omega)]
      exact ⟨by show (n : Int) + _ < _; omega, .inl (by show (i : Int) < _; omega)⟩
    · exact parts1 n m hn hm P0 hr d (i + 1) (by omega) hn' x hx
theorem parts3 (n : Nat) (m : Nat) (hn : n ≤ 10) (hm : m ≤ 12) (P0 : List S58) (hr : ∀ j : Nat, j < P0.length → InR m (Qh P0 j)) : ∀ (d i : Nat), i + d = P0.length → P0.length = n → Parts n m (ex3 ((n : Int) + (m : Int)) i (P0.drop i))
  | 0, i, hi, _ => by
    rw [List.drop_eq_nil_of_le (by omega), ex3]
    intro x hx
    cases hx
  | d + 1, i, hi, hn' => by
    obtain ⟨_, _, q0, q1⟩ := hr i (by omega)
    rw [drop58 P0 i (by omega), ex3, show ((i : Int) + 1) = ((i + 1 : Nat) : Int) by omega]
    intro x hx
    rcases List.mem_cons.1 hx with rfl | hx
    · rw [w64 (by omega) (by omega)]
      exact ⟨by show (i : Int) < _; omega, .inr (by show _ ≤ (n : Int) + (m : Int) + _; omega)⟩
    · exact parts3 n m hn hm P0 hr d (i + 1) (by omega) hn' x hx
theorem parts2 (L0 : List Int) (P : List S58) (T : List S42) : ∀ l : List Nat, (∀ a ∈ l, a < P.length) → Parts P.length L0.length (arcsMid L0 P T l)
  | [], _ => by
    intro x hx
    cases hx
  | a :: l, h => by
    intro x hx
    rw [arcsMid, List.mem_append] at hx
    rcases hx with hx | hx
    · rw [arcsAt, List.mem_map] at hx
      obtain ⟨b, hb, rfl⟩ := hx
      rw [List.mem_filter, List.mem_range] at hb
      have := h a (List.mem_cons_self ..)
      exact ⟨by show (a : Int) < _; omega, .inl (by show (b : Int) < _; omega)⟩
    · exact parts2 L0 P T l (fun c hc => h c (List.mem_cons_of_mem _ hc)) x hx
theorem parts (L0 : List Int) (P : List S58) (T : List S42) (hP : P.length ≤ 10) (hL : L0.length ≤ 12) (hr : ∀ j : Nat, j < P.length → InR L0.length (Qh P j)) : Parts P.length L0.length (arcsAll L0 P T) := by
  intro x hx
  rw [arcsAll, List.mem_append, List.mem_append] at hx
  rcases hx with (hx | hx) | hx
  · exact parts1 P.length L0.length hP hL P hr P.length 0 (by omega) rfl x (by rw [List.drop_zero]; exact hx)
  · exact parts2 L0 P T _ (fun a ha => List.mem_range.1 ha) x hx
  · exact parts3 P.length L0.length hP hL P hr P.length 0 (by omega) rfl x (by rw [List.drop_zero]; exact hx)
theorem expand (L0 : List Int) (L1 : List S158) (P : List S58) (T : List S42) (hP : P.length ≤ 10) (hL : L0.length ≤ 12) :
    ∃ g, Parts P.length L0.length g.2 ∧ Ev (fun k => Q3.f k L0 L1 P T) g ∧ Ev (fun k => Qm.f k L0 L1 P T) g := by
  obtain ⟨e, hr, he⟩ := check L0 L1 P hP hL
  by_cases h : e = 0
  · subst h
    exact ⟨_, parts L0 P T hP hL (hr rfl), ⟨60, expandT L0 L1 P T hP hL (hr rfl) fun k hk => (he k hk).1⟩, expandR L0 L1 P T hP hL (hr rfl) fun k hk => (he k hk).2⟩
  · refine ⟨(0, []), (by intro x hx; cases hx), ⟨60, fun k hk => ?_⟩, ⟨60, fun k hk => ?_⟩⟩
    · show Q3.f k L0 L1 P T = _
      unfold Q3.f
      rw [(he k hk).1, Option.bind_some, if_neg h]
    · show Qm.f k L0 L1 P T = _
      unfold Qm.f
      rw [(he k hk).2, Option.bind_some, if_neg h]
end Go.Proofs.Ytbkfjmpnbalkaaa.Pure
