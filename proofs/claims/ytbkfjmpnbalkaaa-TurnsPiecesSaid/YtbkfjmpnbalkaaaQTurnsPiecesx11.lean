-- Written by a program of this session (wip/ext.py) with the kit's print; Lean checks it.
import Derived.Test.YtbkfjmpnbalkaaaQTurnsPiecesx0
import Derived.Test.YtbkfjmpnbalkaaaQTurnsPiecesx9
import Derived.Test.YtbkfjmpnbalkaaaQTurnsPiecesx10
namespace Go.Proofs.Ytbkfjmpnbalkaaa.QTurnsPieces
open Go.RowKit Go.Proofs.YtbkfjmpnbalkaaaW.PrintWords Go.Proofs.YtbkfjmpnbalkaaaW.PrintLast Go.Proofs.YtbkfjmpnbalkaaaW.PrintMore
attribute [local go_sem] max2_int min2_int max_two min_two max_three min_three max_four min_four   -- for this text's walks alone
set_option linter.unusedVariables false
set_option linter.unusedSimpArgs false

/-! ### Qm: function 43 -/
mutual
def Qm.l0 : Nat → List (S42) → Int → Int → List Int → List (S158) → List (S58) → Int → List (S92) → Option (Int × (List (S92)))
 | 0, _, _, _, _, _, _, _, _ => none
 | k + 1, x1, x5, x7, x156000, x156001, x156002, x159000, x159001 => if x7 < x5 then (if 0 ≤ x7 then (if x7 < (x156002.length : Int) then ((QY.f k x156000 x156001 x156002 ((Qh x156002 x7).f0)).bind fun t160 => (if x159001.length < 8796093022208 then (Qm.l0 k x1 x5 (wrap64 (x7 + 1)) x156000 x156001 x156002 x159000 (x159001 ++ [(⟨t160, x7⟩ : S92)])) else (none))) else (none)) else (none)) else (Qm.l1 k x1 x5 0 x156000 x156001 x156002 x159000 x159001)
def Qm.l1 : Nat → List (S42) → Int → Int → List Int → List (S158) → List (S58) → Int → List (S92) → Option (Int × (List (S92)))
 | 0, _, _, _, _, _, _, _, _ => none
 | k + 1, x1, x5, x8, x156000, x156001, x156002, x159000, x159001 => if x8 < x5 then (Qm.l2 k x1 x5 x8 0 x156000 x156001 x156002 x159000 x159001) else (Qm.l3 k x5 0 x156000 x156001 x156002 x159000 x159001)
def Qm.l2 : Nat → List (S42) → Int → Int → Int → List Int → List (S158) → List (S58) → Int → List (S92) → Option (Int × (List (S92)))
 | 0, _, _, _, _, _, _, _, _, _ => none
 | k + 1, x1, x5, x8, x9, x156000, x156001, x156002, x159000, x159001 => if x9 < x5 then ((QN.f k x156000 x156001 x156002 x1 x8 x9).bind fun t164 => (if t164 = true then (if x159001.length < 8796093022208 then (Qm.l2 k x1 x5 x8 (wrap64 (x9 + 1)) x156000 x156001 x156002 x159000 (x159001 ++ [(⟨x8, x9⟩ : S92)])) else (none)) else (Qm.l2 k x1 x5 x8 (wrap64 (x9 + 1)) x156000 x156001 x156002 x159000 x159001))) else (Qm.l1 k x1 x5 (wrap64 (x8 + 1)) x156000 x156001 x156002 x159000 x159001)
def Qm.l3 : Nat → Int → Int → List Int → List (S158) → List (S58) → Int → List (S92) → Option (Int × (List (S92)))
 | 0, _, _, _, _, _, _, _ => none
 | k + 1, x5, x10, x156000, x156001, x156002, x159000, x159001 => if x10 < x5 then (if 0 ≤ x10 then (if x10 < (x156002.length : Int) then ((QW.f k x156000 x156001 x156002 ((Qh x156002 x10).f1)).bind fun t169 => (if x159001.length < 8796093022208 then (Qm.l3 k x5 (wrap64 (x10 + 1)) x156000 x156001 x156002 x159000 (x159001 ++ [(⟨x10, t169⟩ : S92)])) else (none))) else (none)) else (none)) else (some (x159000, x159001))
end
def Qm.f (k : Nat) (l0_0 : List Int) (l0_1 : List (S158)) (l0_2 : List (S58)) (l1 : List (S42)) : Option (Int × (List (S92))) := (Qn.f k l0_0 l0_1 l0_2).bind fun t157 => (if t157 = 0 then (Qm.l0 k l1 (l0_2.length : Int) 0 l0_0 l0_1 l0_2 (wrap64 ((l0_2.length : Int) + (wrap64 (2 * (l0_0.length : Int))))) ([] : List (S92))) else (some (0, ([] : List (S92)))))
theorem Qm.mono_l : ∀ k, (∀ y0 y1 y2 y3 y4 y5 y6 y7, LeO (Qm.l0 k y0 y1 y2 y3 y4 y5 y6 y7) (Qm.l0 (k + 1) y0 y1 y2 y3 y4 y5 y6 y7)) ∧ (∀ y0 y1 y2 y3 y4 y5 y6 y7, LeO (Qm.l1 k y0 y1 y2 y3 y4 y5 y6 y7) (Qm.l1 (k + 1) y0 y1 y2 y3 y4 y5 y6 y7)) ∧ (∀ y0 y1 y2 y3 y4 y5 y6 y7 y8, LeO (Qm.l2 k y0 y1 y2 y3 y4 y5 y6 y7 y8) (Qm.l2 (k + 1) y0 y1 y2 y3 y4 y5 y6 y7 y8)) ∧ (∀ y0 y1 y2 y3 y4 y5 y6, LeO (Qm.l3 k y0 y1 y2 y3 y4 y5 y6) (Qm.l3 (k + 1) y0 y1 y2 y3 y4 y5 y6))
 | 0 => ⟨fun _ _ _ _ _ _ _ _ r h => by simp [Qm.l0] at h, fun _ _ _ _ _ _ _ _ r h => by simp [Qm.l1] at h, fun _ _ _ _ _ _ _ _ _ r h => by simp [Qm.l2] at h, fun _ _ _ _ _ _ _ r h => by simp [Qm.l3] at h⟩
 | k + 1 => by
  obtain ⟨ih0, ih1, ih2, ih3⟩ := Qm.mono_l k
  refine ⟨?_, ?_, ?_, ?_⟩
  ·intro y0 y1 y2 y3 y4 y5 y6 y7
   unfold Qm.l0
   repeat' first
   | (with_reducible exact ih0 _ _ _ _ _ _ _ _)
   | (with_reducible exact ih1 _ _ _ _ _ _ _ _)
   | (with_reducible exact ih2 _ _ _ _ _ _ _ _ _)
   | (with_reducible exact ih3 _ _ _ _ _ _ _)
   | (with_reducible exact Qn.mono _ _ _ _)
   | (with_reducible exact QN.mono _ _ _ _ _ _ _)
   | (with_reducible exact QY.mono _ _ _ _ _)
   | (with_reducible exact QW.mono _ _ _ _ _)
   | (with_reducible exact LeO.refl _)
   | (with_reducible exact LeO.none _)
   | (with_reducible refine LeO.ite ?_ ?_)
   | (with_reducible refine LeO.bind ?_ (fun _ => ?_))
   | exact ih0 _ _ _ _ _ _ _ _
   | exact ih1 _ _ _ _ _ _ _ _
   | exact ih2 _ _ _ _ _ _ _ _ _
   | exact ih3 _ _ _ _ _ _ _
   | exact Qn.mono _ _ _ _
   | exact QN.mono _ _ _ _ _ _ _
   | exact QY.mono _ _ _ _ _
   | exact QW.mono _ _ _ _ _
   | exact LeO.none _
   | refine LeO.ite ?_ ?_
   | refine LeO.bind ?_ (fun _ => ?_)
  ·intro y0 y1 y2 y3 y4 y5 y6 y7
   unfold Qm.l1
   repeat' first
   | (with_reducible exact ih0 _ _ _ _ _ _ _ _)
   | (with_reducible exact ih1 _ _ _ _ _ _ _ _)
   | (with_reducible exact ih2 _ _ _ _ _ _ _ _ _)
   | (with_reducible exact ih3 _ _ _ _ _ _ _)
   | (with_reducible exact Qn.mono _ _ _ _)
   | (with_reducible exact QN.mono _ _ _ _ _ _ _)
   | (with_reducible exact QY.mono _ _ _ _ _)
   | (with_reducible exact QW.mono _ _ _ _ _)
   | (with_reducible exact LeO.refl _)
   | (with_reducible exact LeO.none _)
   | (with_reducible refine LeO.ite ?_ ?_)
   | (with_reducible refine LeO.bind ?_ (fun _ => ?_))
   | exact ih0 _ _ _ _ _ _ _ _
   | exact ih1 _ _ _ _ _ _ _ _
   | exact ih2 _ _ _ _ _ _ _ _ _
   | exact ih3 _ _ _ _ _ _ _
   | exact Qn.mono _ _ _ _
   | exact QN.mono _ _ _ _ _ _ _
   | exact QY.mono _ _ _ _ _
   | exact QW.mono _ _ _ _ _
   | exact LeO.none _
   | refine LeO.ite ?_ ?_
   | refine LeO.bind ?_ (fun _ => ?_)
  ·intro y0 y1 y2 y3 y4 y5 y6 y7 y8
   unfold Qm.l2
   repeat' first
   | (with_reducible exact ih0 _ _ _ _ _ _ _ _)
   | (with_reducible exact ih1 _ _ _ _ _ _ _ _)
   | (with_reducible exact ih2 _ _ _ _ _ _ _ _ _)
   | (with_reducible exact ih3 _ _ _ _ _ _ _)
   | (with_reducible exact Qn.mono _ _ _ _)
   | (with_reducible exact QN.mono _ _ _ _ _ _ _)
   | (with_reducible exact QY.mono _ _ _ _ _)
   | (with_reducible exact QW.mono _ _ _ _ _)
   | (with_reducible exact LeO.refl _)
   | (with_reducible exact LeO.none _)
   | (with_reducible refine LeO.ite ?_ ?_)
   | (with_reducible refine LeO.bind ?_ (fun _ => ?_))
   | exact ih0 _ _ _ _ _ _ _ _
   | exact ih1 _ _ _ _ _ _ _ _
   | exact ih2 _ _ _ _ _ _ _ _ _
   | exact ih3 _ _ _ _ _ _ _
   | exact Qn.mono _ _ _ _
   | exact QN.mono _ _ _ _ _ _ _
   | exact QY.mono _ _ _ _ _
   | exact QW.mono _ _ _ _ _
   | exact LeO.none _
   | refine LeO.ite ?_ ?_
   | refine LeO.bind ?_ (fun _ => ?_)
  ·intro y0 y1 y2 y3 y4 y5 y6
   unfold Qm.l3
   repeat' first
   | (with_reducible exact ih0 _ _ _ _ _ _ _ _)
   | (with_reducible exact ih1 _ _ _ _ _ _ _ _)
   | (with_reducible exact ih2 _ _ _ _ _ _ _ _ _)
   | (with_reducible exact ih3 _ _ _ _ _ _ _)
   | (with_reducible exact Qn.mono _ _ _ _)
   | (with_reducible exact QN.mono _ _ _ _ _ _ _)
   | (with_reducible exact QY.mono _ _ _ _ _)
   | (with_reducible exact QW.mono _ _ _ _ _)
   | (with_reducible exact LeO.refl _)
   | (with_reducible exact LeO.none _)
   | (with_reducible refine LeO.ite ?_ ?_)
   | (with_reducible refine LeO.bind ?_ (fun _ => ?_))
   | exact ih0 _ _ _ _ _ _ _ _
   | exact ih1 _ _ _ _ _ _ _ _
   | exact ih2 _ _ _ _ _ _ _ _ _
   | exact ih3 _ _ _ _ _ _ _
   | exact Qn.mono _ _ _ _
   | exact QN.mono _ _ _ _ _ _ _
   | exact QY.mono _ _ _ _ _
   | exact QW.mono _ _ _ _ _
   | exact LeO.none _
   | refine LeO.ite ?_ ?_
   | refine LeO.bind ?_ (fun _ => ?_)
theorem Qm.mono : ∀ a0 a1 a2 a3 k, LeO (Qm.f k a0 a1 a2 a3) (Qm.f (k + 1) a0 a1 a2 a3) := by
 intro a0 a1 a2 a3 k
 obtain ⟨ih0, ih1, ih2, ih3⟩ := Qm.mono_l k
 unfold Qm.f
 repeat' first
   | (with_reducible exact ih0 _ _ _ _ _ _ _ _)
   | (with_reducible exact ih1 _ _ _ _ _ _ _ _)
   | (with_reducible exact ih2 _ _ _ _ _ _ _ _ _)
   | (with_reducible exact ih3 _ _ _ _ _ _ _)
   | (with_reducible exact Qn.mono _ _ _ _)
   | (with_reducible exact QN.mono _ _ _ _ _ _ _)
   | (with_reducible exact QY.mono _ _ _ _ _)
   | (with_reducible exact QW.mono _ _ _ _ _)
   | (with_reducible exact LeO.refl _)
   | (with_reducible exact LeO.none _)
   | (with_reducible refine LeO.ite ?_ ?_)
   | (with_reducible refine LeO.bind ?_ (fun _ => ?_))
   | exact ih0 _ _ _ _ _ _ _ _
   | exact ih1 _ _ _ _ _ _ _ _
   | exact ih2 _ _ _ _ _ _ _ _ _
   | exact ih3 _ _ _ _ _ _ _
   | exact Qn.mono _ _ _ _
   | exact QN.mono _ _ _ _ _ _ _
   | exact QY.mono _ _ _ _ _
   | exact QW.mono _ _ _ _ _
   | exact LeO.none _
   | refine LeO.ite ?_ ?_
   | refine LeO.bind ?_ (fun _ => ?_)
def Qm.T8 : Bool × List (List Nat × List Nat) := (true, [([], []), ([0], [0]), ([], []), ([], []), ([3], [3]), ([], []), ([4, 5], [4, 5]), ([6], [6]), ([7], [7]), ([2, 8], [2, 8]), ([], []), ([9, 10], [9, 10]), ([11], [11]), ([1, 12, 9], [1, 12]), ([0, 1, 2, 3, 4, 5, 6, 7, 8, 9, 10, 11, 12, 13], []), ([14, 13, 13, 0, 1, 2, 3, 4, 5, 6, 7, 8, 9, 10, 11, 12, 13], [13, 14])])
def Qm.B8 : List Nat := [0, 1, 0, 0, 8, 0, 56, 120, 248, 508, 0, 2044, 4092, 8191, 16383, 32767]
theorem Qm.tab8 : rtab .any (opsOf Try.f43 8) = Qm.T8 := by kernel_rfl
theorem Qm.bits8 : waitsOk Qm.T8.2 Qm.B8 = true := by kernel_rfl
def Qm.T20 : Bool × List (List Nat × List Nat) := (true, [([], []), ([0], [0]), ([], []), ([], []), ([], []), ([4], [4]), ([], []), ([5, 6], [5, 6]), ([7], [7]), ([8], [8]), ([3, 9], [3, 9]), ([2, 10], [2, 10]), ([11], [11]), ([1, 12, 10], [1, 12]), ([0, 1, 2, 3, 4, 5, 6, 7, 8, 9, 10, 11, 12, 13], []), ([14, 13, 13, 0, 1, 2, 3, 4, 5, 6, 7, 8, 9, 10, 11, 12, 13], [13, 14])])
def Qm.B20 : List Nat := [0, 1, 0, 0, 0, 16, 0, 112, 240, 496, 1016, 2044, 4092, 8191, 16383, 32767]
theorem Qm.tab20 : rtab .any (opsOf Try.f43 20) = Qm.T20 := by kernel_rfl
theorem Qm.bits20 : waitsOk Qm.T20.2 Qm.B20 = true := by kernel_rfl
set_option maxHeartbeats 8000000 in
set_option maxRecDepth 100000 in
theorem Qm.calls (k : Nat) (A0_0 : Option Addr) (c0_0 : Nat) (l0_0 : List Int) (A0_1 : Option Addr) (c0_1 : Nat) (l0_1 : List (S158)) (A0_2 : Option Addr) (c0_2 : Nat) (l0_2 : List (S58)) (A1 : Option Addr) (c1 : Nat) (l1 : List (S42)) (r1 : Int) (r2 : List (S92)) (w : World) (hr0_0 : Kd.C (Kd.int .i64) w A0_0 l0_0.length l0_0) (hc0_0 : l0_0.length ≤ c0_0) (hr0_1 : Kd.C k158 w A0_1 l0_1.length l0_1) (hc0_1 : l0_1.length ≤ c0_1) (hr0_2 : Kd.C k58 w A0_2 l0_2.length l0_2) (hc0_2 : l0_2.length ≤ c0_2) (hr1 : Kd.C k42 w A1 l1.length l1) (hc1 : l1.length ≤ c1) (h : Qm.f k l0_0 l0_1 l0_2 l1 = some (r1, r2)) :
  Calls Try.prog 43 #[.agg #[.slice A0_0 l0_0.length c0_0, .slice A0_1 l0_1.length c0_1, .slice A0_2 l0_2.length c0_2], .slice A1 l1.length c1] w fun e w' => ∃ v1_ : Value, e = .returned (.agg #[.int .i64 r1, v1_]) ∧ Kd.R k92 92 w' w.heap.size (fun _ => True) v1_ r2 ∧ Below w.heap.size w w' := by
 have hu37 := Try.underlying37
 have hu51 := Try.underlying51
 have hu92 := Try.underlying92
 have HR0_0 := Qf.mk hr0_0
 have HC0_0 := Qf.mk hc0_0
 clear hr0_0 hc0_0
 have HR0_1 := Qf.mk hr0_1
 have HC0_1 := Qf.mk hc0_1
 clear hr0_1 hc0_1
 have HR0_2 := Qf.mk hr0_2
 have HC0_2 := Qf.mk hc0_2
 clear hr0_2 hc0_2
 have HR1 := Qf.mk hr1
 have HC1 := Qf.mk hc1
 clear hr1 hc1
 have HB := Qf.mk (Below.refl w.heap.size w)
 have H : ((Qn.f k l0_0 l0_1 l0_2).bind fun t157 => (if t157 = 0 then (Qm.l0 k l1 (l0_2.length : Int) 0 l0_0 l0_1 l0_2 (wrap64 ((l0_2.length : Int) + (wrap64 (2 * (l0_0.length : Int))))) ([] : List (S92))) else (some (0, ([] : List (S92)))))) = some (r1, r2) := h
 clear h
 replace H := Option.bind_eq_some_iff.mp H
 obtain ⟨t157, A30, H⟩ := H
 replace H : (if t157 = 0 then (Qm.l0 k l1 (l0_2.length : Int) 0 l0_0 l0_1 l0_2 (wrap64 ((l0_2.length : Int) + (wrap64 (2 * (l0_0.length : Int))))) ([] : List (S92))) else (some (0, ([] : List (S92))))) = some (r1, r2) := H
 have A3 := Qf.mk A30
 clear A30
 by_cases c4 : t157 = 0
 ·rw [if_pos c4] at H
  have c4b0 : (t157 == 0) = true := beq_iff_eq.mpr c4
  have c4b1 : (t157 != 0) = false := bne_eq_false_iff_eq.mpr c4
  clear c4
  have H' := Qf.mk H
  clear H
  go_enter Try.func43, Try.ntmps43
  go_wp2_with (first | ((with_reducible refine QM (N := 2) rfl ?_); refine QI ?hg (N := 2) ?hd (cs := #[.slice A0_0 l0_0.length c0_0, .slice A0_1 l0_1.length c0_1, .slice A0_2 l0_2.length c0_2]) (t := 37) ?hr ?_; (case hd => rfl); (case hg => rfl); (case hr => first | (go_simp; done) | (go_simp; rfl)); intro gb155 hg w5 hbox hb; have n0_ := Qf.mk (Qo (by repeat (first | (with_reducible first | exact HB.out | apply Qi | apply Qa | apply Qj) | exact HB.out)) hb); have n1_ := Qf.mk (hbox); have n2_ := Qf.mk ((by rw [hg]; exact (Qp (by repeat (first | (with_reducible first | exact HB.out | apply Qi | apply Qa | apply Qj) | exact HB.out))) : w.heap.size ≤ gb155)); have n3_ := Qf.mk ((by rw [hg]; exact (Qp (by repeat (first | (with_reducible first | exact HB.out | apply Qi | apply Qa | apply Qj) | exact HB.out))) : w.heap.size ≤ gb155)); clear HB; have HB := n0_; have BK155 := n1_; have GW155 := n2_; have GE155 := n3_; clear n0_ n1_ n2_ n3_; clear hb hbox hg) | ((with_reducible refine QM (N := 4) rfl ?_); refine QI ?hg (N := 4) ?hd (cs := #[.int .i64 0, .slice none 0 0]) (t := 51) ?hr ?_; (case hd => rfl); (case hg => rfl); (case hr => first | (go_simp; done) | (go_simp; rfl)); intro gb156 hg w6 hbox hb; have n0_ := Qf.mk (QF (g := gb155) (o := .cells #[.slice A0_0 l0_0.length c0_0, .slice A0_1 l0_1.length c0_1, .slice A0_2 l0_2.length c0_2] 37 (0, 0)) (by (with_reducible repeat (first | refine Qd ?_ _ | refine Qg ?_ | refine Qb ?_ _)); exact BK155.out) hb); have n1_ := Qf.mk (Qo (by repeat (first | (with_reducible first | exact HB.out | apply Qi | apply Qa | apply Qj | refine Qk ?_ GE155.out) | exact HB.out)) hb); have n2_ := Qf.mk (hbox); have n3_ := Qf.mk ((by rw [hg]; exact (Qp (by repeat (first | (with_reducible first | exact HB.out | apply Qi | apply Qa | apply Qj | refine Qk ?_ GE155.out) | exact HB.out))) : w.heap.size ≤ gb156)); have n4_ := Qf.mk ((by rw [hg]; exact (Qp (by repeat (first | (with_reducible first | exact HB.out | apply Qi | apply Qa | apply Qj | refine Qk ?_ GE155.out) | exact HB.out))) : w.heap.size ≤ gb156)); have n5_ := Qf.mk ((by rw [hg]; exact Nat.ne_of_lt (QR (g := gb155) (o := .cells #[.slice A0_0 l0_0.length c0_0, .slice A0_1 l0_1.length c0_1, .slice A0_2 l0_2.length c0_2] 37 (0, 0)) (by (with_reducible repeat (first | refine Qd ?_ _ | refine Qg ?_ | refine Qb ?_ _)); exact BK155.out)) : gb155 ≠ gb156)); have n6_ := Qf.mk ((by rw [hg]; exact Nat.ne_of_gt (QR (g := gb155) (o := .cells #[.slice A0_0 l0_0.length c0_0, .slice A0_1 l0_1.length c0_1, .slice A0_2 l0_2.length c0_2] 37 (0, 0)) (by (with_reducible repeat (first | refine Qd ?_ _ | refine Qg ?_ | refine Qb ?_ _)); exact BK155.out)) : gb156 ≠ gb155)); clear BK155; clear HB; have BK155 := n0_; have HB := n1_; have BK156 := n2_; have GW156 := n3_; have GE156 := n4_; have NB155_156 := n5_; have NB156_155 := n6_; clear n0_ n1_ n2_ n3_ n4_ n5_ n6_; clear hb hbox hg; have hnb7 := NB155_156.out; have hnc7 := NB156_155.out; have hcz8_0 : w6.cell? ⟨gb155, 0, none⟩ = some (.slice A0_0 l0_0.length c0_0) := (Qe BK155.out 0).trans rfl; have hcz8_1 : w6.cell? ⟨gb155, 1, none⟩ = some (.slice A0_1 l0_1.length c0_1) := (Qe BK155.out 1).trans rfl; have hcz8_2 : w6.cell? ⟨gb155, 2, none⟩ = some (.slice A0_2 l0_2.length c0_2) := (Qe BK155.out 2).trans rfl; have hfz8_0 := Qc BK155.out 0; have hfz8_1 := Qc BK155.out 1; have hfz8_2 := Qc BK155.out 2) | ((with_reducible refine Q4 (f := 20) rfl ?_); refine goesL_ (some 12) rfl rfl Try.func20 (by kernel_rfl) rfl #[.agg #[.slice A0_0 l0_0.length c0_0, .slice A0_1 l0_1.length c0_1, .slice A0_2 l0_2.length c0_2]] rfl (by (try simp only [List.map_toArray, List.map_cons, List.map_nil]); first | done | rfl | (simp only [List.length_drop, List.length_take]; rfl)) ?_; (with_reducible refine (Qn.calls k _ _ l0_0 _ _ l0_1 _ _ l0_2 t157 _ ?side1 ?side2 ?side3 ?side4 ?side5 ?side6 A3.out).mono ?_); (case side1 => repeat (first | exact (Kd.Qr HR0_0.out HB.out) | (with_reducible refine Kd.QG ?_ _) | (with_reducible refine Kd.QH ?_ _) | (with_reducible refine Kd.QO ?_))); (case side2 => exact HC0_0.out); (case side3 => repeat (first | exact (Kd.Qr HR0_1.out HB.out) | (with_reducible refine Kd.QG ?_ _) | (with_reducible refine Kd.QH ?_ _) | (with_reducible refine Kd.QO ?_))); (case side4 => exact HC0_1.out); (case side5 => repeat (first | exact (Kd.Qr HR0_2.out HB.out) | (with_reducible refine Kd.QG ?_ _) | (with_reducible refine Kd.QH ?_ _) | (with_reducible refine Kd.QO ?_))); (case side6 => exact HC0_2.out); rintro e w9 ⟨rfl, hb⟩; refine ⟨_, rfl, ?_⟩; have n0_ := Qf.mk (QF (g := gb155) (o := .cells #[.slice A0_0 l0_0.length c0_0, .slice A0_1 l0_1.length c0_1, .slice A0_2 l0_2.length c0_2] 37 (0, 0)) (by (with_reducible repeat (first | refine Qd ?_ _ | refine Qg ?_ | refine Qb ?_ _)); exact BK155.out) hb); have n1_ := Qf.mk (QF (g := gb156) (o := .cells #[.int .i64 0, .slice none 0 0] 51 (0, 0)) (by (with_reducible repeat (first | refine Qd ?_ _ | refine Qg ?_ | refine Qb ?_ _)); exact BK156.out) hb); have n2_ := Qf.mk (Qo (by repeat (first | (with_reducible first | exact HB.out | apply Qi | apply Qa | apply Qj | refine Qk ?_ GE155.out | refine Qk ?_ GE156.out) | exact HB.out)) hb); clear BK155; clear BK156; clear HB; have BK155 := n0_; have BK156 := n1_; have HB := n2_; clear n0_ n1_ n2_; (try clear hb); (try clear hb2); (try clear hk); (try clear hi); have hcz10_0 : w9.cell? ⟨gb155, 0, none⟩ = some (.slice A0_0 l0_0.length c0_0) := (Qe BK155.out 0).trans rfl; have hcz10_1 : w9.cell? ⟨gb155, 1, none⟩ = some (.slice A0_1 l0_1.length c0_1) := (Qe BK155.out 1).trans rfl; have hcz10_2 : w9.cell? ⟨gb155, 2, none⟩ = some (.slice A0_2 l0_2.length c0_2) := (Qe BK155.out 2).trans rfl; have hfz10_0 := Qc BK155.out 0; have hfz10_1 := Qc BK155.out 1; have hfz10_2 := Qc BK155.out 2) | ((with_reducible refine QM (N := 6) rfl ?_); refine QI ?hg (N := 6) ?hd (cs := #[.int .i64 0, .slice none 0 0]) (t := 51) ?hr ?_; (case hd => rfl); (case hg => rfl); (case hr => first | (go_simp; done) | (go_simp; rfl)); intro gb158 hg w11 hbox hb; have n0_ := Qf.mk (QF (g := gb155) (o := .cells #[.slice A0_0 l0_0.length c0_0, .slice A0_1 l0_1.length c0_1, .slice A0_2 l0_2.length c0_2] 37 (0, 0)) (by (with_reducible repeat (first | refine Qd ?_ _ | refine Qg ?_ | refine Qb ?_ _)); exact BK155.out) hb); have n1_ := Qf.mk (QF (g := gb156) (o := .cells #[.int .i64 0, .slice none 0 0] 51 (0, 0)) (by (with_reducible repeat (first | refine Qd ?_ _ | refine Qg ?_ | refine Qb ?_ _)); exact BK156.out) hb); have n2_ := Qf.mk (Qo (by repeat (first | (with_reducible first | exact HB.out | apply Qi | apply Qa | apply Qj | refine Qk ?_ GE155.out | refine Qk ?_ GE156.out) | exact HB.out)) hb); have n3_ := Qf.mk (hbox); have n4_ := Qf.mk ((by rw [hg]; exact (Qp (by repeat (first | (with_reducible first | exact HB.out | apply Qi | apply Qa | apply Qj | refine Qk ?_ GE155.out | refine Qk ?_ GE156.out) | exact HB.out))) : w.heap.size ≤ gb158)); have n5_ := Qf.mk ((by rw [hg]; exact (Qp (by repeat (first | (with_reducible first | exact HB.out | apply Qi | apply Qa | apply Qj | refine Qk ?_ GE155.out | refine Qk ?_ GE156.out) | exact HB.out))) : w.heap.size ≤ gb158)); have n6_ := Qf.mk ((by rw [hg]; exact Nat.ne_of_lt (QR (g := gb155) (o := .cells #[.slice A0_0 l0_0.length c0_0, .slice A0_1 l0_1.length c0_1, .slice A0_2 l0_2.length c0_2] 37 (0, 0)) (by (with_reducible repeat (first | refine Qd ?_ _ | refine Qg ?_ | refine Qb ?_ _)); exact BK155.out)) : gb155 ≠ gb158)); have n7_ := Qf.mk ((by rw [hg]; exact Nat.ne_of_gt (QR (g := gb155) (o := .cells #[.slice A0_0 l0_0.length c0_0, .slice A0_1 l0_1.length c0_1, .slice A0_2 l0_2.length c0_2] 37 (0, 0)) (by (with_reducible repeat (first | refine Qd ?_ _ | refine Qg ?_ | refine Qb ?_ _)); exact BK155.out)) : gb158 ≠ gb155)); have n8_ := Qf.mk ((by rw [hg]; exact Nat.ne_of_lt (QR (g := gb156) (o := .cells #[.int .i64 0, .slice none 0 0] 51 (0, 0)) (by (with_reducible repeat (first | refine Qd ?_ _ | refine Qg ?_ | refine Qb ?_ _)); exact BK156.out)) : gb156 ≠ gb158)); have n9_ := Qf.mk ((by rw [hg]; exact Nat.ne_of_gt (QR (g := gb156) (o := .cells #[.int .i64 0, .slice none 0 0] 51 (0, 0)) (by (with_reducible repeat (first | refine Qd ?_ _ | refine Qg ?_ | refine Qb ?_ _)); exact BK156.out)) : gb158 ≠ gb156)); clear BK155; clear BK156; clear HB; have BK155 := n0_; have BK156 := n1_; have HB := n2_; have BK158 := n3_; have GW158 := n4_; have GE158 := n5_; have NB155_158 := n6_; have NB158_155 := n7_; have NB156_158 := n8_; have NB158_156 := n9_; clear n0_ n1_ n2_ n3_ n4_ n5_ n6_ n7_ n8_ n9_; clear hb hbox hg; have hnb12 := NB158_155.out; have hnc12 := NB155_158.out; have hnb13 := NB158_156.out; have hnc13 := NB156_158.out; have hcz14_0 : w11.cell? ⟨gb158, 0, none⟩ = some (.int .i64 0) := (Qe BK158.out 0).trans rfl; have hcz14_1 : w11.cell? ⟨gb158, 1, none⟩ = some (.slice none 0 0) := (Qe BK158.out 1).trans rfl; have hfz14_0 := Qc BK158.out 0; have hfz14_1 := Qc BK158.out 1))
  go_loopg [7] k (fun kq v7 w' => ∃ (x7_1 : Int) (x159001_1 : List (S92)) (u159001 : Value), v7 = .int .i64 x7_1 ∧ Qf (Qm.l0 kq l1 (l0_2.length : Int) x7_1 l0_0 l0_1 l0_2 (wrap64 ((l0_2.length : Int) + (wrap64 (2 * (l0_0.length : Int))))) x159001_1 = some (r1, r2)) ∧ Qf (kq ≤ k) ∧ Qf (Kd.R k92 92 w' w.heap.size (fun _ => True) u159001 x159001_1) ∧ Qf (w'.heap[gb155]? = some (.cells #[(.slice A0_0 l0_0.length c0_0), (.slice A0_1 l0_1.length c0_1), (.slice A0_2 l0_2.length c0_2)] 37 (0, 0))) ∧ Qf (w'.heap[gb156]? = some (.cells #[.int .i64 0, (.slice none 0 0)] 51 (0, 0))) ∧ Qf (w'.heap[gb158]? = some (.cells #[.int .i64 (wrap64 ((l0_2.length : Int) + (wrap64 (2 * (l0_0.length : Int))))), u159001] 51 (0, 0))) ∧ Qf (Below w.heap.size w w'))
  case atStart => exact ⟨(0), (([] : List (S92))), (.slice none 0 0), (by first | rfl | (simp; done) | (simp [*]; done)), H', ⟨Nat.le_refl _⟩, ⟨by first | exact Kd.R_nil _ _ _ _ _ | exact Kd.N_nil _ _ _ _ _ | exact Kd.V_nil _ _ _ _ _ | exact Kd.Q_nil _ _ _ _ _ | exact Kd.S_nil _ _ _ _ _⟩, ⟨by (with_reducible repeat (first | refine Qd ?_ _ | refine Qg ?_ | refine Qb ?_ _)); refine Qv ?_ NB155_158.out _; (with_reducible repeat (first | refine Qd ?_ _ | refine Qg ?_ | refine Qb ?_ _)); refine Qv ?_ NB155_158.out _; (with_reducible repeat (first | refine Qd ?_ _ | refine Qg ?_ | refine Qb ?_ _)); exact BK155.out⟩, ⟨by (with_reducible repeat (first | refine Qd ?_ _ | refine Qg ?_ | refine Qb ?_ _)); refine Qv ?_ NB156_158.out _; (with_reducible repeat (first | refine Qd ?_ _ | refine Qg ?_ | refine Qb ?_ _)); refine Qv ?_ NB156_158.out _; (with_reducible repeat (first | refine Qd ?_ _ | refine Qg ?_ | refine Qb ?_ _)); exact BK156.out⟩, ⟨by (with_reducible repeat (first | refine Qd ?_ _ | refine Qg ?_ | refine Qb ?_ _)); refine Qy (cs := #[.int .i64 (wrap64 ((l0_2.length : Int) + (wrap64 (2 * (l0_0.length : Int))))), .slice none 0 0]) ?_ 1 _ rfl; (with_reducible repeat (first | refine Qd ?_ _ | refine Qg ?_ | refine Qb ?_ _)); refine Qy (cs := #[.int .i64 0, .slice none 0 0]) ?_ 0 _ rfl; (with_reducible repeat (first | refine Qd ?_ _ | refine Qg ?_ | refine Qb ?_ _)); exact BK158.out⟩, ⟨by repeat (first | (with_reducible first | exact HB.out | apply Qi | apply Qa | apply Qj | refine Qk ?_ GE155.out | refine Qk ?_ GE156.out | refine Qk ?_ GE158.out) | exact HB.out)⟩⟩
  case round =>
   clear H'
   try clear c1
   try clear c2
   try clear p2
   try clear c4
   try clear c4b0
   try clear c4b1
   try clear p6
   try clear c7
   try clear c12
   try clear c13
   try clear hcz10_0
   try clear hcz10_1
   try clear hcz10_2
   try clear hcz14_0
   try clear hcz14_1
   try clear hcz8_0
   try clear hcz8_1
   try clear hcz8_2
   try clear hfz10_0
   try clear hfz10_1
   try clear hfz10_2
   try clear hfz14_0
   try clear hfz14_1
   try clear hfz8_0
   try clear hfz8_1
   try clear hfz8_2
   obtain ⟨x7_1, x159001_1, u159001, rfl, HA, HK1, HO_159001, BK155, BK156, BK158, HB⟩ := hrel
   cases gk with
   | zero => exact absurd HA.out (by simp [Qm.l0])
   | succ k1 =>
    have H := HA.out
    clear HA
    simp only [Qm.l0] at H
    by_cases c15 : x7_1 < (l0_2.length : Int)
    ·rw [if_pos c15] at H
     have c15b0 : decide (x7_1 < (l0_2.length : Int)) = true := decide_eq_true c15
     clear c15
     by_cases c16 : 0 ≤ x7_1
     ·rw [if_pos c16] at H
      have c16b0 : decide (0 ≤ x7_1) = true := decide_eq_true c16
      clear c16
      by_cases c17 : x7_1 < (l0_2.length : Int)
      ·rw [if_pos c17] at H
       have c17b0 : decide (x7_1 < (l0_2.length : Int)) = true := decide_eq_true c17
       clear c17
       replace H := Option.bind_eq_some_iff.mp H
       obtain ⟨t160, A180, H⟩ := H
       replace H : (if x159001_1.length < 8796093022208 then (Qm.l0 k1 l1 (l0_2.length : Int) (wrap64 (x7_1 + 1)) l0_0 l0_1 l0_2 (wrap64 ((l0_2.length : Int) + (wrap64 (2 * (l0_0.length : Int))))) (x159001_1 ++ [(⟨t160, x7_1⟩ : S92)])) else (none)) = some (r1, r2) := H
       have A18 := Qf.mk A180
       clear A180
       by_cases c19 : x159001_1.length < 8796093022208
       ·rw [if_pos c19] at H
        have LMc19 := Qf.mk c19
        clear c19
        obtain ⟨y161, hy161⟩ : ∃ y_ : List (S92), y_ = (x159001_1 ++ [(⟨t160, x7_1⟩ : S92)]) := ⟨_, rfl⟩
        replace H : (Qm.l0 k1 l1 (l0_2.length : Int) (wrap64 (x7_1 + 1)) l0_0 l0_1 l0_2 (wrap64 ((l0_2.length : Int) + (wrap64 (2 * (l0_0.length : Int))))) y161) = some (r1, r2) := by first | (rw [hy161]; with_reducible exact H) | (have H2_ := (Option.bind_some _ _).symm.trans H; rw [hy161]; with_reducible exact H2_) | (have H2_ := (Option.bind_some _ _).symm.trans H; with_reducible exact H2_) | with_reducible exact H | (rw [hy161]; exact H) | exact H
        have Ny161 := Qf.mk hy161
        clear hy161
        have H' := Qf.mk H
        clear H
        try go_wp2
        have n0_ := Qf.mk (Kd.QT HO_159001.out)
        have n1_ := Qf.mk (Qg BK155.out)
        have n2_ := Qf.mk (Qg BK156.out)
        have n3_ := Qf.mk (Qg BK158.out)
        have n4_ := Qf.mk (Qj HB.out)
        clear HO_159001
        clear BK155
        clear BK156
        clear BK158
        clear HB
        have HO_159001 := n0_
        have BK155 := n1_
        have BK156 := n2_
        have BK158 := n3_
        have HB := n4_
        clear n0_ n1_ n2_ n3_ n4_
        have p159 : 0 ≤ (x7_1 : Int) := of_decide_eq_true (by first | (with_reducible assumption) | assumption)
        have q159 : x7_1 < (l0_2.length : Int) := of_decide_eq_true (by first | (with_reducible assumption) | assumption)
        obtain ⟨ad159, A159_5, c159_5, e159, hx159_0, hx159_1, hx159_2, hx159_3, hx159_4, hx159_5, hx159_6, hx159_7, hl159_5, hi159_5⟩ := at_T58 HR0_2.out x7_1 p159 q159
        have hw159_7 := hx159_7
        have hw159_6 := hx159_6
        have hw159_5 := hx159_5
        have hw159_4 := hx159_4
        have hw159_3 := hx159_3
        have hw159_2 := hx159_2
        have hw159_1 := hx159_1
        have hw159_0 := hx159_0
        cases e159
        replace hx159_0 := (HB.out.cell (World.block_lt_of_cell? w _ hx159_0)).trans hx159_0
        replace hx159_1 := (HB.out.cell (World.block_lt_of_cell? w _ hx159_1)).trans hx159_1
        replace hx159_2 := (HB.out.cell (World.block_lt_of_cell? w _ hx159_2)).trans hx159_2
        replace hx159_3 := (HB.out.cell (World.block_lt_of_cell? w _ hx159_3)).trans hx159_3
        replace hx159_4 := (HB.out.cell (World.block_lt_of_cell? w _ hx159_4)).trans hx159_4
        replace hx159_5 := (HB.out.cell (World.block_lt_of_cell? w _ hx159_5)).trans hx159_5
        replace hx159_6 := (HB.out.cell (World.block_lt_of_cell? w _ hx159_6)).trans hx159_6
        replace hx159_7 := (HB.out.cell (World.block_lt_of_cell? w _ hx159_7)).trans hx159_7
        have HR159_5 := Qf.mk hi159_5
        have HC159_5 := Qf.mk hl159_5
        clear hi159_5 hl159_5
        replace p159 := eq_true p159
        replace q159 := eq_true q159
        refine start_ (n := 16) (S := fun w' => w'.cell? ⟨gb158, 0, none⟩ = some (.int .i64 (wrap64 ((l0_2.length : Int) + (wrap64 (2 * (l0_0.length : Int)))))) ∧ w'.cell? ⟨gb158, 1, none⟩ = some (u159001) ∧ w'.cell? ⟨gb155, 0, none⟩ = some (.slice A0_0 l0_0.length c0_0) ∧ w'.cell? ⟨gb155, 1, none⟩ = some (.slice A0_1 l0_1.length c0_1) ∧ w'.cell? ⟨gb155, 2, none⟩ = some (.slice (some ad159) l0_2.length c0_2) ∧ w'.cell? (ad159.add ((x7_1).toNat * 8)) = some (.int .i64 ((Qh l0_2 x7_1).f0)) ∧ w'.cell? ⟨(ad159.add ((x7_1).toNat * 8)).block, (ad159.add ((x7_1).toNat * 8)).off + 1, none⟩ = some (.int .i64 ((Qh l0_2 x7_1).f1)) ∧ w'.cell? ⟨(ad159.add ((x7_1).toNat * 8)).block, (ad159.add ((x7_1).toNat * 8)).off + 2, none⟩ = some (.int .i64 ((Qh l0_2 x7_1).f2)) ∧ w'.cell? ⟨(ad159.add ((x7_1).toNat * 8)).block, (ad159.add ((x7_1).toNat * 8)).off + 3, none⟩ = some (.int .i64 ((Qh l0_2 x7_1).f3)) ∧ w'.cell? ⟨(ad159.add ((x7_1).toNat * 8)).block, (ad159.add ((x7_1).toNat * 8)).off + 4, none⟩ = some (.int .i64 ((Qh l0_2 x7_1).f4)) ∧ w'.cell? ⟨(ad159.add ((x7_1).toNat * 8)).block, (ad159.add ((x7_1).toNat * 8)).off + 5, none⟩ = some (.slice A159_5 ((Qh l0_2 x7_1).f5.f0).length c159_5) ∧ w'.cell? ⟨(ad159.add ((x7_1).toNat * 8)).block, (ad159.add ((x7_1).toNat * 8)).off + 6, none⟩ = some (.int .i64 ((Qh l0_2 x7_1).f5.f1)) ∧ w'.cell? ⟨(ad159.add ((x7_1).toNat * 8)).block, (ad159.add ((x7_1).toNat * 8)).off + 7, none⟩ = some (.int .i64 ((Qh l0_2 x7_1).f5.f2))) (ds := [15]) #[false, false, false, false, false, false, false, false, false, false, false, false, false, false, false, false] (by kernel_rfl) rfl rfl ⟨(Qe BK158.out 0).trans rfl, (Qe BK158.out 1).trans rfl, (Qe BK155.out 0).trans rfl, (Qe BK155.out 1).trans rfl, (Qe BK155.out 2).trans rfl, ((HB.out.cell (World.block_lt_of_cell? w _ hw159_0)).trans hw159_0), ((HB.out.cell (World.block_lt_of_cell? w _ hw159_1)).trans hw159_1), ((HB.out.cell (World.block_lt_of_cell? w _ hw159_2)).trans hw159_2), ((HB.out.cell (World.block_lt_of_cell? w _ hw159_3)).trans hw159_3), ((HB.out.cell (World.block_lt_of_cell? w _ hw159_4)).trans hw159_4), ((HB.out.cell (World.block_lt_of_cell? w _ hw159_5)).trans hw159_5), ((HB.out.cell (World.block_lt_of_cell? w _ hw159_6)).trans hw159_6), ((HB.out.cell (World.block_lt_of_cell? w _ hw159_7)).trans hw159_7)⟩ (fun hHeld => ?_); refine with_tabW Qm.tab8 Qm.bits8 (fun HT_ HW_ => ?_)
        generalize wr.drew = w20 at HO_159001 BK155 BK156 BK158 HB HR159_5 hx159_0 hx159_1 hx159_2 hx159_3 hx159_4 hx159_5 hx159_6 hx159_7 hHeld ⊢
        refine QL (i := 0) (N := some 30) (v := ?_) (a' := ?_) #[true, false, false, false, false, false, false, false, false, false, false, false, false, false, false, false] rfl rfl (QD HT_.out (by kernel_rfl)) (fun _ _ _ h => h) (Or.inl ⟨by rfl, ?_⟩) ?_ ?_
        rotate_left
        ·intro w'
         go_simp
         with_reducible rfl
        rotate_left
        ·simp only [Act.put, List.setIfInBounds_toArray, List.set_cons_zero, List.set_cons_succ, Qt, Qu]
         rfl
        refine QL (i := 3) (N := some 33) (v := ?_) (a' := ?_) #[true, false, false, true, false, false, false, false, false, false, false, false, false, false, false, false] rfl rfl (QD HT_.out (by kernel_rfl)) (fun _ _ _ h => h) (Or.inl ⟨by rfl, ?_⟩) ?_ ?_
        rotate_left
        ·intro w'
         go_simp
         with_reducible rfl
        rotate_left
        ·simp only [Act.put, List.setIfInBounds_toArray, List.set_cons_zero, List.set_cons_succ, Qt, Qu]
         rfl
        refine QL (i := 5) (N := some 35) (v := ?_) (a' := ?_) #[true, false, false, true, false, true, false, false, false, false, false, false, false, false, false, false] rfl rfl (QD HT_.out (by kernel_rfl)) (fun _ _ _ h => h) (Or.inl ⟨by rfl, ?_⟩) ?_ ?_
        rotate_left
        ·intro w'
         go_simp
         with_reducible rfl
        rotate_left
        ·simp only [Act.put, List.setIfInBounds_toArray, List.set_cons_zero, List.set_cons_succ, Qt, Qu]
         rfl
        refine QL (i := 10) (N := some 40) (v := ?_) (a' := ?_) #[true, false, false, true, false, true, false, false, false, false, true, false, false, false, false, false] rfl rfl (QD HT_.out (by kernel_rfl)) (fun _ _ _ h => h) (Or.inl ⟨by rfl, ?_⟩) ?_ ?_
        rotate_left
        ·intro w'
         go_simp
         with_reducible rfl
        rotate_left
        ·simp only [Act.put, List.setIfInBounds_toArray, List.set_cons_zero, List.set_cons_succ, Qt, Qu]
         rfl
        refine take_ (i := 1) (N := some 31) (v := ?_) (a' := ?_) #[true, true, false, true, false, true, false, false, false, false, true, false, false, false, false, false] rfl rfl (Q8 HT_.out HW_.out (by kernel_rfl)) (fun _ _ _ h => h) (Or.inl ⟨by rfl, ?_⟩) hHeld ?_ ?_
        rotate_left
        ·rintro w' ⟨s0, s1, s2, s3, s4, s5, s6, s7, s8, s9, s10, s11, s12⟩
         go_simp
         with_reducible rfl
        rotate_left
        ·simp only [Act.put, List.setIfInBounds_toArray, List.set_cons_zero, List.set_cons_succ, Qt, Qu]
         rfl
        refine take_ (i := 2) (N := some 32) (v := ?_) (a' := ?_) #[true, true, true, true, false, true, false, false, false, false, true, false, false, false, false, false] rfl rfl (Q8 HT_.out HW_.out (by kernel_rfl)) (fun _ _ _ h => h) (Or.inl ⟨by rfl, ?_⟩) hHeld ?_ ?_
        rotate_left
        ·rintro w' ⟨s0, s1, s2, s3, s4, s5, s6, s7, s8, s9, s10, s11, s12⟩
         go_simp
         with_reducible rfl
        rotate_left
        ·simp only [Act.put, List.setIfInBounds_toArray, List.set_cons_zero, List.set_cons_succ, Qt, Qu]
         rfl
        refine take_ (i := 4) (N := some 34) (v := ?_) (a' := ?_) #[true, true, true, true, true, true, false, false, false, false, true, false, false, false, false, false] rfl rfl (Q8 HT_.out HW_.out (by kernel_rfl)) (fun _ _ _ h => h) (Or.inl ⟨by rfl, ?_⟩) hHeld ?_ ?_
        rotate_left
        ·rintro w' ⟨s0, s1, s2, s3, s4, s5, s6, s7, s8, s9, s10, s11, s12⟩
         go_simp
         with_reducible rfl
        rotate_left
        ·simp only [Act.put, List.setIfInBounds_toArray, List.set_cons_zero, List.set_cons_succ, Qt, Qu]
         rfl
        refine QL (i := 6) (N := some 36) (v := ?_) (a' := ?_) #[true, true, true, true, true, true, true, false, false, false, true, false, false, false, false, false] rfl rfl (QD HT_.out (by kernel_rfl)) (fun _ _ _ h => h) (Or.inl ⟨by rfl, ?_⟩) ?_ ?_
        rotate_left
        ·intro w'
         go_simp
         with_reducible rfl
        rotate_left
        ·simp only [Act.put, List.setIfInBounds_toArray, List.set_cons_zero, List.set_cons_succ, Qt, Qu]
         rfl
        refine QL (i := 7) (N := some 37) (v := ?_) (a' := ?_) #[true, true, true, true, true, true, true, true, false, false, true, false, false, false, false, false] rfl rfl (QD HT_.out (by kernel_rfl)) (fun _ _ _ h => h) (Or.inl ⟨by rfl, ?_⟩) ?_ ?_
        rotate_left
        ·intro w'
         go_simp
         with_reducible rfl
        rotate_left
        ·simp only [Act.put, List.setIfInBounds_toArray, List.set_cons_zero, List.set_cons_succ, Qt, Qu]
         rfl
        refine take_ (i := 8) (N := some 38) (v := ?_) (a' := ?_) #[true, true, true, true, true, true, true, true, true, false, true, false, false, false, false, false] rfl rfl (Q8 HT_.out HW_.out (by kernel_rfl)) (fun _ _ _ h => h) (Or.inl ⟨by rfl, ?_⟩) hHeld ?_ ?_
        rotate_left
        ·rintro w' ⟨s0, s1, s2, s3, s4, s5, s6, s7, s8, s9, s10, s11, s12⟩
         go_simp
         with_reducible rfl
        rotate_left
        ·simp only [Act.put, List.setIfInBounds_toArray, List.set_cons_zero, List.set_cons_succ, Qt, Qu]
         rfl
        refine one_ (i := 9) (N := some 39) #[true, true, true, true, true, true, true, true, true, true, true, false, false, false, false, false] rfl rfl (one_of HT_.out (by kernel_rfl)) (by decide) (fun K hK => ?_)
        refine goes_ Try.func17 (by kernel_rfl) rfl #[.agg #[.slice A0_0 l0_0.length c0_0, .slice A0_1 l0_1.length c0_1, .slice (some ad159) l0_2.length c0_2], .int .i64 ((Qh l0_2 x7_1).f0)] (by rfl) rfl rfl (by (try simp only [List.map_toArray, List.map_cons, List.map_nil]); first | done | rfl | (simp only [List.length_drop, List.length_take]; rfl)) ?_
        with_reducible refine (QY.calls k1 _ _ l0_0 _ _ l0_1 _ _ l0_2 ((Qh l0_2 x7_1).f0) t160 _ ?side1 ?side2 ?side3 ?side4 ?side5 ?side6 A18.out).mono ?_
        (case side1 => repeat (first | exact (Kd.Qr HR0_0.out HB.out) | (with_reducible refine Kd.QG ?_ _) | (with_reducible refine Kd.QH ?_ _) | (with_reducible refine Kd.QO ?_)))
        (case side2 => exact HC0_0.out)
        (case side3 => repeat (first | exact (Kd.Qr HR0_1.out HB.out) | (with_reducible refine Kd.QG ?_ _) | (with_reducible refine Kd.QH ?_ _) | (with_reducible refine Kd.QO ?_)))
        (case side4 => exact HC0_1.out)
        (case side5 => repeat (first | exact (Kd.Qr HR0_2.out HB.out) | (with_reducible refine Kd.QG ?_ _) | (with_reducible refine Kd.QH ?_ _) | (with_reducible refine Kd.QO ?_)))
        (case side6 => exact HC0_2.out)
        rintro e w21 ⟨rfl, hb⟩
        refine ⟨_, rfl, ?_⟩
        have n0_ := Qf.mk (Kd.R_below (by (with_reducible repeat (first | apply Kd.QP | apply Kd.QQ | apply Kd.QT)); exact HO_159001.out) hb)
        have n1_ := Qf.mk (QF (g := gb155) (o := .cells #[.slice A0_0 l0_0.length c0_0, .slice A0_1 l0_1.length c0_1, .slice (some ad159) l0_2.length c0_2] 37 (0, 0)) (by (with_reducible repeat (first | refine Qd ?_ _ | refine Qg ?_ | refine Qb ?_ _)); exact BK155.out) hb)
        have n2_ := Qf.mk (QF (g := gb156) (o := .cells #[.int .i64 0, .slice none 0 0] 51 (0, 0)) (by (with_reducible repeat (first | refine Qd ?_ _ | refine Qg ?_ | refine Qb ?_ _)); exact BK156.out) hb)
        have n3_ := Qf.mk (QF (g := gb158) (o := .cells #[.int .i64 (wrap64 ((l0_2.length : Int) + (wrap64 (2 * (l0_0.length : Int))))), u159001] 51 (0, 0)) (by (with_reducible repeat (first | refine Qd ?_ _ | refine Qg ?_ | refine Qb ?_ _)); exact BK158.out) hb)
        have n4_ := Qf.mk (Qo (by repeat (first | (with_reducible first | exact HB.out | apply Qi | apply Qa | apply Qj | refine Qk ?_ GE155.out | refine Qk ?_ GE156.out | refine Qk ?_ GE158.out) | exact HB.out)) hb)
        clear HO_159001
        clear BK155
        clear BK156
        clear BK158
        clear HB
        have HO_159001 := n0_
        have BK155 := n1_
        have BK156 := n2_
        have BK158 := n3_
        have HB := n4_
        clear n0_ n1_ n2_ n3_ n4_
        (try clear hb)
        (try clear hb2)
        (try clear hk)
        (try clear hi)
        refine hK.out _ _ ⟨(Qe BK158.out 0).trans rfl, (Qe BK158.out 1).trans rfl, (Qe BK155.out 0).trans rfl, (Qe BK155.out 1).trans rfl, (Qe BK155.out 2).trans rfl, ((HB.out.cell (World.block_lt_of_cell? w _ hw159_0)).trans hw159_0), ((HB.out.cell (World.block_lt_of_cell? w _ hw159_1)).trans hw159_1), ((HB.out.cell (World.block_lt_of_cell? w _ hw159_2)).trans hw159_2), ((HB.out.cell (World.block_lt_of_cell? w _ hw159_3)).trans hw159_3), ((HB.out.cell (World.block_lt_of_cell? w _ hw159_4)).trans hw159_4), ((HB.out.cell (World.block_lt_of_cell? w _ hw159_5)).trans hw159_5), ((HB.out.cell (World.block_lt_of_cell? w _ hw159_6)).trans hw159_6), ((HB.out.cell (World.block_lt_of_cell? w _ hw159_7)).trans hw159_7)⟩ (fun hHeld => ?_)
        clear hK K
        refine norm_ (a' := ?_) ?_ ?_
        rotate_left
        ·show Act.put _ (some 39) _ = _
         simp only [Act.put, List.setIfInBounds_toArray, List.set_cons_zero, List.set_cons_succ, Qt, Qu]
         rfl
        refine QL (i := 11) (N := some 41) (v := ?_) (a' := ?_) #[true, true, true, true, true, true, true, true, true, true, true, true, false, false, false, false] rfl rfl (QD HT_.out (by kernel_rfl)) (fun _ _ _ h => h) (Or.inl ⟨by rfl, ?_⟩) ?_ ?_
        rotate_left
        ·intro w'
         go_simp
         with_reducible rfl
        rotate_left
        ·simp only [Act.put, List.setIfInBounds_toArray, List.set_cons_zero, List.set_cons_succ, Qt, Qu]
         rfl
        refine one_ (i := 12) (N := some 42) #[true, true, true, true, true, true, true, true, true, true, true, true, true, false, false, false] rfl rfl (one_of HT_.out (by kernel_rfl)) (by decide) (fun K hK => ?_)
        refine value_ (w1 := ?_) (v := ?_) (by rfl) rfl ?_ ?_
        rotate_left 2
        ·go_simp
         constructor
         ·rfl
         ·rfl
        refine hK.out _ _ ⟨(Qe (Qb BK158.out _) 0).trans rfl, (Qe (Qb BK158.out _) 1).trans rfl, (Qe (Qb BK155.out _) 0).trans rfl, (Qe (Qb BK155.out _) 1).trans rfl, (Qe (Qb BK155.out _) 2).trans rfl, (World.cell?_alloc_lt _ _ _ (World.block_lt_of_cell? _ _ (((HB.out.cell (World.block_lt_of_cell? w _ hw159_0)).trans hw159_0)))).trans (((HB.out.cell (World.block_lt_of_cell? w _ hw159_0)).trans hw159_0)), (World.cell?_alloc_lt _ _ _ (World.block_lt_of_cell? _ _ (((HB.out.cell (World.block_lt_of_cell? w _ hw159_1)).trans hw159_1)))).trans (((HB.out.cell (World.block_lt_of_cell? w _ hw159_1)).trans hw159_1)), (World.cell?_alloc_lt _ _ _ (World.block_lt_of_cell? _ _ (((HB.out.cell (World.block_lt_of_cell? w _ hw159_2)).trans hw159_2)))).trans (((HB.out.cell (World.block_lt_of_cell? w _ hw159_2)).trans hw159_2)), (World.cell?_alloc_lt _ _ _ (World.block_lt_of_cell? _ _ (((HB.out.cell (World.block_lt_of_cell? w _ hw159_3)).trans hw159_3)))).trans (((HB.out.cell (World.block_lt_of_cell? w _ hw159_3)).trans hw159_3)), (World.cell?_alloc_lt _ _ _ (World.block_lt_of_cell? _ _ (((HB.out.cell (World.block_lt_of_cell? w _ hw159_4)).trans hw159_4)))).trans (((HB.out.cell (World.block_lt_of_cell? w _ hw159_4)).trans hw159_4)), (World.cell?_alloc_lt _ _ _ (World.block_lt_of_cell? _ _ (((HB.out.cell (World.block_lt_of_cell? w _ hw159_5)).trans hw159_5)))).trans (((HB.out.cell (World.block_lt_of_cell? w _ hw159_5)).trans hw159_5)), (World.cell?_alloc_lt _ _ _ (World.block_lt_of_cell? _ _ (((HB.out.cell (World.block_lt_of_cell? w _ hw159_6)).trans hw159_6)))).trans (((HB.out.cell (World.block_lt_of_cell? w _ hw159_6)).trans hw159_6)), (World.cell?_alloc_lt _ _ _ (World.block_lt_of_cell? _ _ (((HB.out.cell (World.block_lt_of_cell? w _ hw159_7)).trans hw159_7)))).trans (((HB.out.cell (World.block_lt_of_cell? w _ hw159_7)).trans hw159_7))⟩ (fun hHeld => ?_)
        clear hK K
        refine norm_ (a' := ?_) ?_ ?_
        rotate_left
        ·show Act.put _ (some 42) _ = _
         simp only [Act.put, List.setIfInBounds_toArray, List.set_cons_zero, List.set_cons_succ, Qt, Qu]
         rfl
        refine one_ (i := 13) (N := some 43) #[true, true, true, true, true, true, true, true, true, true, true, true, true, true, false, false] rfl rfl (one_of HT_.out (by kernel_rfl)) (by decide) (fun K hK => ?_)
        refine Kd.R_append_step k92 (w0 := w) w.heap.size (by rfl) (.tmp 31) (.tmp 42) 49 92 (.agg #[(.int .i64 0), (.int .i64 0)]) 16 rfl Try.underlying49 info92 rfl (by decide) (by omega) u159001 x159001_1 (⟨t160, x7_1⟩ : S92) [.int .i64 t160, .int .i64 x7_1] (fun _ => True) (fun _ => False) rfl rfl ?aP (fun _ hk => hk.elim) ?aF ?aO ?aB ?aS ?aL ?_
        (case aP => exact k92_mkM _ _ _ (⟨t160, x7_1⟩ : S92))
        (case aB => exact (by repeat (first | (with_reducible first | exact HB.out | apply Qi | apply Qa | apply Qj | refine Qk ?_ GE155.out | refine Qk ?_ GE156.out | refine Qk ?_ GE158.out) | exact HB.out)))
        (case aF => exact (fun _ _ => trivial))
        (case aO => exact (by (with_reducible repeat (first | apply Kd.QP | apply Kd.QQ | apply Kd.QT)); exact HO_159001.out))
        (case aS => exact (Qp (by repeat (first | (with_reducible first | exact HB.out | apply Qi | apply Qa | apply Qj | refine Qk ?_ GE155.out | refine Qk ?_ GE156.out | refine Qk ?_ GE158.out) | exact HB.out))))
        (case aL => have := LMc19.out; omega)
        intro v162 w22 ho hb hg hat
        rw [← Ny161.out] at ho
        have n0_ := Qf.mk (blk_grown (g := gb155) (o := .cells #[.slice A0_0 l0_0.length c0_0, .slice A0_1 l0_1.length c0_1, .slice (some ad159) l0_2.length c0_2] 37 (0, 0)) (by (with_reducible repeat (first | refine Qd ?_ _ | refine Qg ?_ | refine Qb ?_ _)); exact BK155.out) hg (Kd.R_ne HO_159001.out BK155.out (by decide)))
        have n1_ := Qf.mk (blk_grown (g := gb156) (o := .cells #[.int .i64 0, .slice none 0 0] 51 (0, 0)) (by (with_reducible repeat (first | refine Qd ?_ _ | refine Qg ?_ | refine Qb ?_ _)); exact BK156.out) hg (Kd.R_ne HO_159001.out BK156.out (by decide)))
        have n2_ := Qf.mk (blk_grown (g := gb158) (o := .cells #[.int .i64 (wrap64 ((l0_2.length : Int) + (wrap64 (2 * (l0_0.length : Int))))), u159001] 51 (0, 0)) (by (with_reducible repeat (first | refine Qd ?_ _ | refine Qg ?_ | refine Qb ?_ _)); exact BK158.out) hg (Kd.R_ne HO_159001.out BK158.out (by decide)))
        have n3_ := Qf.mk (hb)
        have n4_ := Qf.mk (ho)
        clear BK155
        clear BK156
        clear BK158
        clear HB
        clear HO_159001
        have BK155 := n0_
        have BK156 := n1_
        have BK158 := n2_
        have HB := n3_
        have HO163 := n4_
        clear n0_ n1_ n2_ n3_ n4_
        clear ho hb hg hat
        obtain ⟨Ao23, co23, eo23⟩ := Kd.R_slice HO163.out
        (first | subst eo23 | (injection eo23 with f1_ f2_ f3_; have f4_ := f1_.symm; have f5_ := f3_.symm; clear f1_ f2_ f3_; subst f4_; subst f5_))
        refine hK.out _ _ ⟨(Qe BK158.out 0).trans rfl, (Qe BK158.out 1).trans rfl, (Qe BK155.out 0).trans rfl, (Qe BK155.out 1).trans rfl, (Qe BK155.out 2).trans rfl, ((HB.out.cell (World.block_lt_of_cell? w _ hw159_0)).trans hw159_0), ((HB.out.cell (World.block_lt_of_cell? w _ hw159_1)).trans hw159_1), ((HB.out.cell (World.block_lt_of_cell? w _ hw159_2)).trans hw159_2), ((HB.out.cell (World.block_lt_of_cell? w _ hw159_3)).trans hw159_3), ((HB.out.cell (World.block_lt_of_cell? w _ hw159_4)).trans hw159_4), ((HB.out.cell (World.block_lt_of_cell? w _ hw159_5)).trans hw159_5), ((HB.out.cell (World.block_lt_of_cell? w _ hw159_6)).trans hw159_6), ((HB.out.cell (World.block_lt_of_cell? w _ hw159_7)).trans hw159_7)⟩ (fun hHeld => ?_)
        clear hK K
        refine norm_ (a' := ?_) ?_ ?_
        rotate_left
        ·show Act.put _ (some 43) _ = _
         simp only [Act.put, List.setIfInBounds_toArray, List.set_cons_zero, List.set_cons_succ, Qt, Qu]
         rfl
        refine QL (i := 14) (N := some 44) (v := ?_) (a' := ?_) #[true, true, true, true, true, true, true, true, true, true, true, true, true, true, true, false] rfl rfl (QD HT_.out (by kernel_rfl)) (fun _ _ _ h => h) (Or.inl ⟨by rfl, ?_⟩) ?_ ?_
        rotate_left
        ·intro w'
         go_simp
         with_reducible rfl
        rotate_left
        ·simp only [Act.put, List.setIfInBounds_toArray, List.set_cons_zero, List.set_cons_succ, Qt, Qu]
         rfl
        refine last_ (i := 15) (N := none) #[true, true, true, true, true, true, true, true, true, true, true, true, true, true, true, true] rfl rfl (one_of HT_.out (by kernel_rfl)) (by decide) (fun K hK => ?_)
        have hs24 : w22.cell? ⟨gb158, 1, none⟩ = some (u159001) := (Qe BK158.out 1).trans rfl
        have hfs24 := Qc BK158.out 1
        have hns24_0 := NB155_158.out
        have hns24_1 := NB156_158.out
        have hms24_0 := NB158_155.out
        have hms24_1 := NB158_156.out
        refine skip_ (w1 := ?_) (by rfl) rfl ?_ ?_
        rotate_left
        ·go_simp
         rfl
        refine hK.out _ _ ?_
        clear hK K
        refine done_ (done_of HT_.out (by kernel_rfl)) ?_
        try go_wp2
        go_roundg k1
        case measure => have := HK1.out; omega
        case rel => exact ⟨(wrap64 (x7_1 + 1)), (y161), (.slice Ao23 y161.length co23), (by first | rfl | (simp; done) | (simp [*]; done)), H', ⟨by have := HK1.out; omega⟩, ⟨by (with_reducible repeat (first | apply Kd.QP | apply Kd.QQ | apply Kd.QT)); exact Kd.Q9 (Kd.R_far (p := ⟨gb158, 1, none⟩) (Kd.R_types HO163.out BK158.out (by decide)) (fun _ hk => hk.2) (.slice Ao23 y161.length co23)) (fun _ hk => trivial)⟩, ⟨by (with_reducible repeat (first | refine Qd ?_ _ | refine Qg ?_ | refine Qb ?_ _)); refine Qv ?_ NB155_158.out _; (with_reducible repeat (first | refine Qd ?_ _ | refine Qg ?_ | refine Qb ?_ _)); exact BK155.out⟩, ⟨by (with_reducible repeat (first | refine Qd ?_ _ | refine Qg ?_ | refine Qb ?_ _)); refine Qv ?_ NB156_158.out _; (with_reducible repeat (first | refine Qd ?_ _ | refine Qg ?_ | refine Qb ?_ _)); exact BK156.out⟩, ⟨by (with_reducible repeat (first | refine Qd ?_ _ | refine Qg ?_ | refine Qb ?_ _)); refine Qy (cs := #[.int .i64 (wrap64 ((l0_2.length : Int) + (wrap64 (2 * (l0_0.length : Int))))), u159001]) ?_ 1 _ rfl; (with_reducible repeat (first | refine Qd ?_ _ | refine Qg ?_ | refine Qb ?_ _)); exact BK158.out⟩, ⟨by repeat (first | (with_reducible first | exact HB.out | apply Qi | apply Qa | apply Qj | refine Qk ?_ GE155.out | refine Qk ?_ GE156.out | refine Qk ?_ GE158.out) | exact HB.out)⟩⟩
       ·rw [if_neg c19] at H
        exact absurd H (by simp)
      ·rw [if_neg c17] at H
       exact absurd H (by simp)
     ·rw [if_neg c16] at H
      exact absurd H (by simp)
    ·rw [if_neg c15] at H
     have c15b0 : decide (x7_1 < (l0_2.length : Int)) = false := decide_eq_false c15
     clear c15
     have H' := Qf.mk H
     clear H
     go_wp2
     go_loopg [8] k1 (fun kq v8 w' => ∃ (x8_2 : Int) (x159001_2 : List (S92)) (u159001 : Value), v8 = .int .i64 x8_2 ∧ Qf (Qm.l1 kq l1 (l0_2.length : Int) x8_2 l0_0 l0_1 l0_2 (wrap64 ((l0_2.length : Int) + (wrap64 (2 * (l0_0.length : Int))))) x159001_2 = some (r1, r2)) ∧ Qf (kq ≤ k1) ∧ Qf (Kd.R k92 92 w' w.heap.size (fun _ => True) u159001 x159001_2) ∧ Qf (w'.heap[gb155]? = some (.cells #[(.slice A0_0 l0_0.length c0_0), (.slice A0_1 l0_1.length c0_1), (.slice A0_2 l0_2.length c0_2)] 37 (0, 0))) ∧ Qf (w'.heap[gb156]? = some (.cells #[.int .i64 0, (.slice none 0 0)] 51 (0, 0))) ∧ Qf (w'.heap[gb158]? = some (.cells #[.int .i64 (wrap64 ((l0_2.length : Int) + (wrap64 (2 * (l0_0.length : Int))))), u159001] 51 (0, 0))) ∧ Qf (Below w.heap.size w w'))
     case atStart => exact ⟨(0), (x159001_1), (u159001), (by first | rfl | (simp; done) | (simp [*]; done)), H', ⟨Nat.le_refl _⟩, ⟨by (with_reducible repeat (first | apply Kd.QP | apply Kd.QQ | apply Kd.QT)); exact HO_159001.out⟩, ⟨by (with_reducible repeat (first | refine Qd ?_ _ | refine Qg ?_ | refine Qb ?_ _)); exact BK155.out⟩, ⟨by (with_reducible repeat (first | refine Qd ?_ _ | refine Qg ?_ | refine Qb ?_ _)); exact BK156.out⟩, ⟨by (with_reducible repeat (first | refine Qd ?_ _ | refine Qg ?_ | refine Qb ?_ _)); exact BK158.out⟩, ⟨by repeat (first | (with_reducible first | exact HB.out | apply Qi | apply Qa | apply Qj | refine Qk ?_ GE155.out | refine Qk ?_ GE156.out | refine Qk ?_ GE158.out) | exact HB.out)⟩⟩
     case round =>
      clear H'
      try clear c1
      try clear p1
      try clear q1
      try clear hx1
      try clear c2
      try clear p2
      try clear c4
      try clear c4b0
      try clear c4b1
      try clear p6
      try clear c7
      try clear c12
      try clear c13
      try clear c15
      try clear c15b0
      try clear p15
      try clear q15
      try clear hx15
      try clear c16
      try clear c16b0
      try clear c17
      try clear c17b0
      try clear c19
      try clear c20
      try clear hcz10_0
      try clear hcz10_1
      try clear hcz10_2
      try clear hcz14_0
      try clear hcz14_1
      try clear hcz8_0
      try clear hcz8_1
      try clear hcz8_2
      try clear hfz10_0
      try clear hfz10_1
      try clear hfz10_2
      try clear hfz14_0
      try clear hfz14_1
      try clear hfz8_0
      try clear hfz8_1
      try clear hfz8_2
      try clear hx159_0
      try clear hx159_1
      try clear hx159_2
      try clear hx159_3
      try clear hx159_4
      try clear hx159_5
      try clear hx159_6
      try clear hx159_7
      try clear p159
      try clear p2
      try clear p6
      try clear q159
      obtain ⟨x8_2, x159001_2, u159001, rfl, HA, HK2, HO_159001, BK155, BK156, BK158, HB⟩ := hrel
      cases gk with
      | zero => exact absurd HA.out (by simp [Qm.l1])
      | succ k2 =>
       have H := HA.out
       clear HA
       simp only [Qm.l1] at H
       by_cases c25 : x8_2 < (l0_2.length : Int)
       ·rw [if_pos c25] at H
        have c25b0 : decide (x8_2 < (l0_2.length : Int)) = true := decide_eq_true c25
        clear c25
        have H' := Qf.mk H
        clear H
        go_wp2
        go_loopg [9] k2 (fun kq v9 w' => ∃ (x9_3 : Int) (x159001_3 : List (S92)) (u159001 : Value), v9 = .int .i64 x9_3 ∧ Qf (Qm.l2 kq l1 (l0_2.length : Int) x8_2 x9_3 l0_0 l0_1 l0_2 (wrap64 ((l0_2.length : Int) + (wrap64 (2 * (l0_0.length : Int))))) x159001_3 = some (r1, r2)) ∧ Qf (kq ≤ k2) ∧ Qf (Kd.R k92 92 w' w.heap.size (fun _ => True) u159001 x159001_3) ∧ Qf (w'.heap[gb155]? = some (.cells #[(.slice A0_0 l0_0.length c0_0), (.slice A0_1 l0_1.length c0_1), (.slice A0_2 l0_2.length c0_2)] 37 (0, 0))) ∧ Qf (w'.heap[gb156]? = some (.cells #[.int .i64 0, (.slice none 0 0)] 51 (0, 0))) ∧ Qf (w'.heap[gb158]? = some (.cells #[.int .i64 (wrap64 ((l0_2.length : Int) + (wrap64 (2 * (l0_0.length : Int))))), u159001] 51 (0, 0))) ∧ Qf (Below w.heap.size w w'))
        case atStart => exact ⟨(0), (x159001_2), (u159001), (by first | rfl | (simp; done) | (simp [*]; done)), H', ⟨Nat.le_refl _⟩, ⟨by (with_reducible repeat (first | apply Kd.QP | apply Kd.QQ | apply Kd.QT)); exact HO_159001.out⟩, ⟨by (with_reducible repeat (first | refine Qd ?_ _ | refine Qg ?_ | refine Qb ?_ _)); exact BK155.out⟩, ⟨by (with_reducible repeat (first | refine Qd ?_ _ | refine Qg ?_ | refine Qb ?_ _)); exact BK156.out⟩, ⟨by (with_reducible repeat (first | refine Qd ?_ _ | refine Qg ?_ | refine Qb ?_ _)); exact BK158.out⟩, ⟨by repeat (first | (with_reducible first | exact HB.out | apply Qi | apply Qa | apply Qj | refine Qk ?_ GE155.out | refine Qk ?_ GE156.out | refine Qk ?_ GE158.out) | exact HB.out)⟩⟩
        case round =>
         clear H'
         try clear c1
         try clear p1
         try clear q1
         try clear hx1
         try clear c2
         try clear p2
         try clear c4
         try clear c4b0
         try clear c4b1
         try clear p6
         try clear c7
         try clear c12
         try clear c13
         try clear c15
         try clear c15b0
         try clear p15
         try clear q15
         try clear hx15
         try clear c16
         try clear c16b0
         try clear c17
         try clear c17b0
         try clear c19
         try clear c20
         try clear c25
         try clear c25b0
         try clear hcz10_0
         try clear hcz10_1
         try clear hcz10_2
         try clear hcz14_0
         try clear hcz14_1
         try clear hcz8_0
         try clear hcz8_1
         try clear hcz8_2
         try clear hfz10_0
         try clear hfz10_1
         try clear hfz10_2
         try clear hfz14_0
         try clear hfz14_1
         try clear hfz8_0
         try clear hfz8_1
         try clear hfz8_2
         try clear hx159_0
         try clear hx159_1
         try clear hx159_2
         try clear hx159_3
         try clear hx159_4
         try clear hx159_5
         try clear hx159_6
         try clear hx159_7
         try clear p1
         try clear p15
         try clear p159
         try clear p2
         try clear p6
         try clear q1
         try clear q15
         try clear q159
         obtain ⟨x9_3, x159001_3, u159001, rfl, HA, HK3, HO_159001, BK155, BK156, BK158, HB⟩ := hrel
         cases gk with
         | zero => exact absurd HA.out (by simp [Qm.l2])
         | succ k3 =>
          have H := HA.out
          clear HA
          simp only [Qm.l2] at H
          by_cases c26 : x9_3 < (l0_2.length : Int)
          ·rw [if_pos c26] at H
           have c26b0 : decide (x9_3 < (l0_2.length : Int)) = true := decide_eq_true c26
           clear c26
           replace H := Option.bind_eq_some_iff.mp H
           obtain ⟨t164, A270, H⟩ := H
           replace H : (if t164 = true then (if x159001_3.length < 8796093022208 then (Qm.l2 k3 l1 (l0_2.length : Int) x8_2 (wrap64 (x9_3 + 1)) l0_0 l0_1 l0_2 (wrap64 ((l0_2.length : Int) + (wrap64 (2 * (l0_0.length : Int))))) (x159001_3 ++ [(⟨x8_2, x9_3⟩ : S92)])) else (none)) else (Qm.l2 k3 l1 (l0_2.length : Int) x8_2 (wrap64 (x9_3 + 1)) l0_0 l0_1 l0_2 (wrap64 ((l0_2.length : Int) + (wrap64 (2 * (l0_0.length : Int))))) x159001_3)) = some (r1, r2) := H
           have A27 := Qf.mk A270
           clear A270
           by_cases c28 : t164 = true
           ·subst c28
            have H1 : (if x159001_3.length < 8796093022208 then (Qm.l2 k3 l1 (l0_2.length : Int) x8_2 (wrap64 (x9_3 + 1)) l0_0 l0_1 l0_2 (wrap64 ((l0_2.length : Int) + (wrap64 (2 * (l0_0.length : Int))))) (x159001_3 ++ [(⟨x8_2, x9_3⟩ : S92)])) else (none)) = some (r1, r2) := by rw [if_pos rfl] at H; exact H
            clear H
            have H := H1
            clear H1
            by_cases c29 : x159001_3.length < 8796093022208
            ·rw [if_pos c29] at H
             have LMc29 := Qf.mk c29
             clear c29
             obtain ⟨y165, hy165⟩ : ∃ y_ : List (S92), y_ = (x159001_3 ++ [(⟨x8_2, x9_3⟩ : S92)]) := ⟨_, rfl⟩
             replace H : (Qm.l2 k3 l1 (l0_2.length : Int) x8_2 (wrap64 (x9_3 + 1)) l0_0 l0_1 l0_2 (wrap64 ((l0_2.length : Int) + (wrap64 (2 * (l0_0.length : Int))))) y165) = some (r1, r2) := by first | (rw [hy165]; with_reducible exact H) | (have H2_ := (Option.bind_some _ _).symm.trans H; rw [hy165]; with_reducible exact H2_) | (have H2_ := (Option.bind_some _ _).symm.trans H; with_reducible exact H2_) | with_reducible exact H | (rw [hy165]; exact H) | exact H
             have Ny165 := Qf.mk hy165
             clear hy165
             have H' := Qf.mk H
             clear H
             have hnb30 := NB155_156.out
             have hnc30 := NB156_155.out
             have hnb31 := NB155_158.out
             have hnc31 := NB158_155.out
             have hcz32_0 : wr.cell? ⟨gb155, 0, none⟩ = some (.slice A0_0 l0_0.length c0_0) := (Qe BK155.out 0).trans rfl
             have hcz32_1 : wr.cell? ⟨gb155, 1, none⟩ = some (.slice A0_1 l0_1.length c0_1) := (Qe BK155.out 1).trans rfl
             have hcz32_2 : wr.cell? ⟨gb155, 2, none⟩ = some (.slice A0_2 l0_2.length c0_2) := (Qe BK155.out 2).trans rfl
             have hfz32_0 := Qc BK155.out 0
             have hfz32_1 := Qc BK155.out 1
             have hfz32_2 := Qc BK155.out 2
             go_wp2_with (first | ((with_reducible refine Q4 (f := 15) rfl ?_); refine goesL_ (some 59) rfl rfl Try.func15 (by kernel_rfl) rfl #[.agg #[.slice A0_0 l0_0.length c0_0, .slice A0_1 l0_1.length c0_1, .slice A0_2 l0_2.length c0_2], .slice A1 l1.length c1, .int .i64 x8_2, .int .i64 x9_3] rfl (by (try simp only [List.map_toArray, List.map_cons, List.map_nil]); first | done | rfl | (simp only [List.length_drop, List.length_take]; rfl)) ?_; (with_reducible refine (QN.calls k3 _ _ l0_0 _ _ l0_1 _ _ l0_2 _ _ l1 x8_2 x9_3 true _ ?side1 ?side2 ?side3 ?side4 ?side5 ?side6 ?side7 ?side8 A27.out).mono ?_); (case side1 => repeat (first | exact (Kd.Qr HR0_0.out HB.out) | (with_reducible refine Kd.QG ?_ _) | (with_reducible refine Kd.QH ?_ _) | (with_reducible refine Kd.QO ?_))); (case side2 => exact HC0_0.out); (case side3 => repeat (first | exact (Kd.Qr HR0_1.out HB.out) | (with_reducible refine Kd.QG ?_ _) | (with_reducible refine Kd.QH ?_ _) | (with_reducible refine Kd.QO ?_))); (case side4 => exact HC0_1.out); (case side5 => repeat (first | exact (Kd.Qr HR0_2.out HB.out) | (with_reducible refine Kd.QG ?_ _) | (with_reducible refine Kd.QH ?_ _) | (with_reducible refine Kd.QO ?_))); (case side6 => exact HC0_2.out); (case side7 => repeat (first | exact (Kd.Qr HR1.out HB.out) | (with_reducible refine Kd.QG ?_ _) | (with_reducible refine Kd.QH ?_ _) | (with_reducible refine Kd.QO ?_))); (case side8 => exact HC1.out); rintro e w33 ⟨rfl, hb⟩; refine ⟨_, rfl, ?_⟩; have n0_ := Qf.mk (Kd.R_below (by (with_reducible repeat (first | apply Kd.QP | apply Kd.QQ | apply Kd.QT)); exact HO_159001.out) hb); have n1_ := Qf.mk (QF (g := gb155) (o := .cells #[.slice A0_0 l0_0.length c0_0, .slice A0_1 l0_1.length c0_1, .slice A0_2 l0_2.length c0_2] 37 (0, 0)) (by (with_reducible repeat (first | refine Qd ?_ _ | refine Qg ?_ | refine Qb ?_ _)); exact BK155.out) hb); have n2_ := Qf.mk (QF (g := gb156) (o := .cells #[.int .i64 0, .slice none 0 0] 51 (0, 0)) (by (with_reducible repeat (first | refine Qd ?_ _ | refine Qg ?_ | refine Qb ?_ _)); exact BK156.out) hb); have n3_ := Qf.mk (QF (g := gb158) (o := .cells #[.int .i64 (wrap64 ((l0_2.length : Int) + (wrap64 (2 * (l0_0.length : Int))))), u159001] 51 (0, 0)) (by (with_reducible repeat (first | refine Qd ?_ _ | refine Qg ?_ | refine Qb ?_ _)); exact BK158.out) hb); have n4_ := Qf.mk (Qo (by repeat (first | (with_reducible first | exact HB.out | apply Qi | apply Qa | apply Qj | refine Qk ?_ GE155.out | refine Qk ?_ GE156.out | refine Qk ?_ GE158.out) | exact HB.out)) hb); clear HO_159001; clear BK155; clear BK156; clear BK158; clear HB; have HO_159001 := n0_; have BK155 := n1_; have BK156 := n2_; have BK158 := n3_; have HB := n4_; clear n0_ n1_ n2_ n3_ n4_; (try clear hb); (try clear hb2); (try clear hk); (try clear hi); have hnb34 := NB158_156.out; have hnc34 := NB156_158.out; have hcz35_0 : w33.cell? ⟨gb158, 0, none⟩ = some (.int .i64 (wrap64 ((l0_2.length : Int) + (wrap64 (2 * (l0_0.length : Int)))))) := (Qe BK158.out 0).trans rfl; have hcz35_1 : w33.cell? ⟨gb158, 1, none⟩ = some (u159001) := (Qe BK158.out 1).trans rfl; have hfz35_0 := Qc BK158.out 0; have hfz35_1 := Qc BK158.out 1) | ((with_reducible refine gate_builtin (b := .append) (xs := #[.tmp 61, .tmp 65]) rfl ?_); at_builtin; refine Kd.R_append k92 (w0 := w) w.heap.size rfl (.tmp 61) (.tmp 65) 49 92 (.agg #[(.int .i64 0), (.int .i64 0)]) 16 rfl Try.underlying49 info92 rfl (by decide) (by omega) u159001 x159001_3 (⟨x8_2, x9_3⟩ : S92) [.int .i64 x8_2, .int .i64 x9_3] (fun _ => True) (fun _ => False) rfl rfl ?aP (fun _ hk => hk.elim) ?aF ?aO ?aB ?aS ?aL ?_; (case aP => exact k92_mkM _ _ _ (⟨x8_2, x9_3⟩ : S92)); (case aB => exact (by repeat (first | (with_reducible first | exact HB.out | apply Qi | apply Qa | apply Qj | refine Qk ?_ GE155.out | refine Qk ?_ GE156.out | refine Qk ?_ GE158.out) | exact HB.out))); (case aF => exact (fun _ _ => trivial)); (case aO => exact (by (with_reducible repeat (first | apply Kd.QP | apply Kd.QQ | apply Kd.QT)); exact HO_159001.out)); (case aS => exact (Qp (by repeat (first | (with_reducible first | exact HB.out | apply Qi | apply Qa | apply Qj | refine Qk ?_ GE155.out | refine Qk ?_ GE156.out | refine Qk ?_ GE158.out) | exact HB.out)))); (case aL => have := LMc29.out; omega); intro v166 w36 ho hb hg hat; rw [← Ny165.out] at ho; have n0_ := Qf.mk (blk_grown (g := gb155) (o := .cells #[.slice A0_0 l0_0.length c0_0, .slice A0_1 l0_1.length c0_1, .slice A0_2 l0_2.length c0_2] 37 (0, 0)) (by (with_reducible repeat (first | refine Qd ?_ _ | refine Qg ?_ | refine Qb ?_ _)); exact BK155.out) hg (Kd.R_ne HO_159001.out BK155.out (by decide))); have n1_ := Qf.mk (blk_grown (g := gb156) (o := .cells #[.int .i64 0, .slice none 0 0] 51 (0, 0)) (by (with_reducible repeat (first | refine Qd ?_ _ | refine Qg ?_ | refine Qb ?_ _)); exact BK156.out) hg (Kd.R_ne HO_159001.out BK156.out (by decide))); have n2_ := Qf.mk (blk_grown (g := gb158) (o := .cells #[.int .i64 (wrap64 ((l0_2.length : Int) + (wrap64 (2 * (l0_0.length : Int))))), u159001] 51 (0, 0)) (by (with_reducible repeat (first | refine Qd ?_ _ | refine Qg ?_ | refine Qb ?_ _)); exact BK158.out) hg (Kd.R_ne HO_159001.out BK158.out (by decide))); have n3_ := Qf.mk (hb); have n4_ := Qf.mk (ho); clear BK155; clear BK156; clear BK158; clear HB; clear HO_159001; have BK155 := n0_; have BK156 := n1_; have BK158 := n2_; have HB := n3_; have HO167 := n4_; clear n0_ n1_ n2_ n3_ n4_; clear ho hb hg hat; obtain ⟨Ao37, co37, eo37⟩ := Kd.R_slice HO167.out; subst eo37; have hcz38_0 : w36.cell? ⟨gb158, 0, none⟩ = some (.int .i64 (wrap64 ((l0_2.length : Int) + (wrap64 (2 * (l0_0.length : Int)))))) := (Qe BK158.out 0).trans rfl; have hcz38_1 : w36.cell? ⟨gb158, 1, none⟩ = some (u159001) := (Qe BK158.out 1).trans rfl; have hfz38_0 := Qc BK158.out 0; have hfz38_1 := Qc BK158.out 1))
             go_roundg k3
             case measure => have := HK1.out; have := HK2.out; have := HK3.out; omega
             case rel => exact ⟨(wrap64 (x9_3 + 1)), (y165), (.slice Ao37 y165.length co37), (by first | rfl | (simp; done) | (simp [*]; done)), H', ⟨by have := HK1.out; have := HK2.out; have := HK3.out; omega⟩, ⟨by (with_reducible repeat (first | apply Kd.QP | apply Kd.QQ | apply Kd.QT)); exact Kd.Q9 (Kd.R_far (p := ⟨gb158, 1, none⟩) (Kd.R_types HO167.out BK158.out (by decide)) (fun _ hk => hk.2) (.slice Ao37 y165.length co37)) (fun _ hk => trivial)⟩, ⟨by (with_reducible repeat (first | refine Qd ?_ _ | refine Qg ?_ | refine Qb ?_ _)); refine Qv ?_ NB155_158.out _; (with_reducible repeat (first | refine Qd ?_ _ | refine Qg ?_ | refine Qb ?_ _)); exact BK155.out⟩, ⟨by (with_reducible repeat (first | refine Qd ?_ _ | refine Qg ?_ | refine Qb ?_ _)); refine Qv ?_ NB156_158.out _; (with_reducible repeat (first | refine Qd ?_ _ | refine Qg ?_ | refine Qb ?_ _)); exact BK156.out⟩, ⟨by (with_reducible repeat (first | refine Qd ?_ _ | refine Qg ?_ | refine Qb ?_ _)); refine Qy (cs := #[.int .i64 (wrap64 ((l0_2.length : Int) + (wrap64 (2 * (l0_0.length : Int))))), u159001]) ?_ 1 _ rfl; (with_reducible repeat (first | refine Qd ?_ _ | refine Qg ?_ | refine Qb ?_ _)); exact BK158.out⟩, ⟨by repeat (first | (with_reducible first | exact HB.out | apply Qi | apply Qa | apply Qj | refine Qk ?_ GE155.out | refine Qk ?_ GE156.out | refine Qk ?_ GE158.out) | exact HB.out)⟩⟩
            ·rw [if_neg c29] at H
             exact absurd H (by simp)
           ·replace c28 := Bool.eq_false_iff.mpr c28
            subst c28
            have H1 : (Qm.l2 k3 l1 (l0_2.length : Int) x8_2 (wrap64 (x9_3 + 1)) l0_0 l0_1 l0_2 (wrap64 ((l0_2.length : Int) + (wrap64 (2 * (l0_0.length : Int))))) x159001_3) = some (r1, r2) := by rw [if_neg (show ¬ (false = true) by decide)] at H; exact H
            clear H
            have H := H1
            clear H1
            have H' := Qf.mk H
            clear H
            have hnb39 := NB155_156.out
            have hnc39 := NB156_155.out
            have hnb40 := NB155_158.out
            have hnc40 := NB158_155.out
            have hcz41_0 : wr.cell? ⟨gb155, 0, none⟩ = some (.slice A0_0 l0_0.length c0_0) := (Qe BK155.out 0).trans rfl
            have hcz41_1 : wr.cell? ⟨gb155, 1, none⟩ = some (.slice A0_1 l0_1.length c0_1) := (Qe BK155.out 1).trans rfl
            have hcz41_2 : wr.cell? ⟨gb155, 2, none⟩ = some (.slice A0_2 l0_2.length c0_2) := (Qe BK155.out 2).trans rfl
            have hfz41_0 := Qc BK155.out 0
            have hfz41_1 := Qc BK155.out 1
            have hfz41_2 := Qc BK155.out 2
            go_wp2_with (first | ((with_reducible refine Q4 (f := 15) rfl ?_); refine goesL_ (some 59) rfl rfl Try.func15 (by kernel_rfl) rfl #[.agg #[.slice A0_0 l0_0.length c0_0, .slice A0_1 l0_1.length c0_1, .slice A0_2 l0_2.length c0_2], .slice A1 l1.length c1, .int .i64 x8_2, .int .i64 x9_3] rfl (by (try simp only [List.map_toArray, List.map_cons, List.map_nil]); first | done | rfl | (simp only [List.length_drop, List.length_take]; rfl)) ?_; (with_reducible refine (QN.calls k3 _ _ l0_0 _ _ l0_1 _ _ l0_2 _ _ l1 x8_2 x9_3 false _ ?side1 ?side2 ?side3 ?side4 ?side5 ?side6 ?side7 ?side8 A27.out).mono ?_); (case side1 => repeat (first | exact (Kd.Qr HR0_0.out HB.out) | (with_reducible refine Kd.QG ?_ _) | (with_reducible refine Kd.QH ?_ _) | (with_reducible refine Kd.QO ?_))); (case side2 => exact HC0_0.out); (case side3 => repeat (first | exact (Kd.Qr HR0_1.out HB.out) | (with_reducible refine Kd.QG ?_ _) | (with_reducible refine Kd.QH ?_ _) | (with_reducible refine Kd.QO ?_))); (case side4 => exact HC0_1.out); (case side5 => repeat (first | exact (Kd.Qr HR0_2.out HB.out) | (with_reducible refine Kd.QG ?_ _) | (with_reducible refine Kd.QH ?_ _) | (with_reducible refine Kd.QO ?_))); (case side6 => exact HC0_2.out); (case side7 => repeat (first | exact (Kd.Qr HR1.out HB.out) | (with_reducible refine Kd.QG ?_ _) | (with_reducible refine Kd.QH ?_ _) | (with_reducible refine Kd.QO ?_))); (case side8 => exact HC1.out); rintro e w42 ⟨rfl, hb⟩; refine ⟨_, rfl, ?_⟩; have n0_ := Qf.mk (Kd.R_below (by (with_reducible repeat (first | apply Kd.QP | apply Kd.QQ | apply Kd.QT)); exact HO_159001.out) hb); have n1_ := Qf.mk (QF (g := gb155) (o := .cells #[.slice A0_0 l0_0.length c0_0, .slice A0_1 l0_1.length c0_1, .slice A0_2 l0_2.length c0_2] 37 (0, 0)) (by (with_reducible repeat (first | refine Qd ?_ _ | refine Qg ?_ | refine Qb ?_ _)); exact BK155.out) hb); have n2_ := Qf.mk (QF (g := gb156) (o := .cells #[.int .i64 0, .slice none 0 0] 51 (0, 0)) (by (with_reducible repeat (first | refine Qd ?_ _ | refine Qg ?_ | refine Qb ?_ _)); exact BK156.out) hb); have n3_ := Qf.mk (QF (g := gb158) (o := .cells #[.int .i64 (wrap64 ((l0_2.length : Int) + (wrap64 (2 * (l0_0.length : Int))))), u159001] 51 (0, 0)) (by (with_reducible repeat (first | refine Qd ?_ _ | refine Qg ?_ | refine Qb ?_ _)); exact BK158.out) hb); have n4_ := Qf.mk (Qo (by repeat (first | (with_reducible first | exact HB.out | apply Qi | apply Qa | apply Qj | refine Qk ?_ GE155.out | refine Qk ?_ GE156.out | refine Qk ?_ GE158.out) | exact HB.out)) hb); clear HO_159001; clear BK155; clear BK156; clear BK158; clear HB; have HO_159001 := n0_; have BK155 := n1_; have BK156 := n2_; have BK158 := n3_; have HB := n4_; clear n0_ n1_ n2_ n3_ n4_; (try clear hb); (try clear hb2); (try clear hk); (try clear hi)))
            go_roundg k3
            case measure => have := HK1.out; have := HK2.out; have := HK3.out; omega
            case rel => exact ⟨(wrap64 (x9_3 + 1)), (x159001_3), (u159001), (by first | rfl | (simp; done) | (simp [*]; done)), H', ⟨by have := HK1.out; have := HK2.out; have := HK3.out; omega⟩, ⟨by (with_reducible repeat (first | apply Kd.QP | apply Kd.QQ | apply Kd.QT)); exact HO_159001.out⟩, ⟨by (with_reducible repeat (first | refine Qd ?_ _ | refine Qg ?_ | refine Qb ?_ _)); exact BK155.out⟩, ⟨by (with_reducible repeat (first | refine Qd ?_ _ | refine Qg ?_ | refine Qb ?_ _)); exact BK156.out⟩, ⟨by (with_reducible repeat (first | refine Qd ?_ _ | refine Qg ?_ | refine Qb ?_ _)); exact BK158.out⟩, ⟨by repeat (first | (with_reducible first | exact HB.out | apply Qi | apply Qa | apply Qj | refine Qk ?_ GE155.out | refine Qk ?_ GE156.out | refine Qk ?_ GE158.out) | exact HB.out)⟩⟩
          ·rw [if_neg c26] at H
           have c26b0 : decide (x9_3 < (l0_2.length : Int)) = false := decide_eq_false c26
           clear c26
           have H' := Qf.mk H
           clear H
           go_wp2
           go_roundg k3
           case measure => have := HK1.out; have := HK2.out; have := HK3.out; omega
           case rel => exact ⟨(wrap64 (x8_2 + 1)), (x159001_3), (u159001), (by first | rfl | (simp; done) | (simp [*]; done)), H', ⟨by have := HK1.out; have := HK2.out; have := HK3.out; omega⟩, ⟨by (with_reducible repeat (first | apply Kd.QP | apply Kd.QQ | apply Kd.QT)); exact HO_159001.out⟩, ⟨by (with_reducible repeat (first | refine Qd ?_ _ | refine Qg ?_ | refine Qb ?_ _)); exact BK155.out⟩, ⟨by (with_reducible repeat (first | refine Qd ?_ _ | refine Qg ?_ | refine Qb ?_ _)); exact BK156.out⟩, ⟨by (with_reducible repeat (first | refine Qd ?_ _ | refine Qg ?_ | refine Qb ?_ _)); exact BK158.out⟩, ⟨by repeat (first | (with_reducible first | exact HB.out | apply Qi | apply Qa | apply Qj | refine Qk ?_ GE155.out | refine Qk ?_ GE156.out | refine Qk ?_ GE158.out) | exact HB.out)⟩⟩
       ·rw [if_neg c25] at H
        have c25b0 : decide (x8_2 < (l0_2.length : Int)) = false := decide_eq_false c25
        clear c25
        have H' := Qf.mk H
        clear H
        go_wp2
        go_loopg [10] k2 (fun kq v10 w' => ∃ (x10_3 : Int) (x159001_3 : List (S92)) (u159001 : Value), v10 = .int .i64 x10_3 ∧ Qf (Qm.l3 kq (l0_2.length : Int) x10_3 l0_0 l0_1 l0_2 (wrap64 ((l0_2.length : Int) + (wrap64 (2 * (l0_0.length : Int))))) x159001_3 = some (r1, r2)) ∧ Qf (kq ≤ k2) ∧ Qf (Kd.R k92 92 w' w.heap.size (fun _ => True) u159001 x159001_3) ∧ Qf (w'.heap[gb155]? = some (.cells #[(.slice A0_0 l0_0.length c0_0), (.slice A0_1 l0_1.length c0_1), (.slice A0_2 l0_2.length c0_2)] 37 (0, 0))) ∧ Qf (w'.heap[gb156]? = some (.cells #[.int .i64 0, (.slice none 0 0)] 51 (0, 0))) ∧ Qf (w'.heap[gb158]? = some (.cells #[.int .i64 (wrap64 ((l0_2.length : Int) + (wrap64 (2 * (l0_0.length : Int))))), u159001] 51 (0, 0))) ∧ Qf (Below w.heap.size w w'))
        case atStart => exact ⟨(0), (x159001_2), (u159001), (by first | rfl | (simp; done) | (simp [*]; done)), H', ⟨Nat.le_refl _⟩, ⟨by (with_reducible repeat (first | apply Kd.QP | apply Kd.QQ | apply Kd.QT)); exact HO_159001.out⟩, ⟨by (with_reducible repeat (first | refine Qd ?_ _ | refine Qg ?_ | refine Qb ?_ _)); exact BK155.out⟩, ⟨by (with_reducible repeat (first | refine Qd ?_ _ | refine Qg ?_ | refine Qb ?_ _)); exact BK156.out⟩, ⟨by (with_reducible repeat (first | refine Qd ?_ _ | refine Qg ?_ | refine Qb ?_ _)); exact BK158.out⟩, ⟨by repeat (first | (with_reducible first | exact HB.out | apply Qi | apply Qa | apply Qj | refine Qk ?_ GE155.out | refine Qk ?_ GE156.out | refine Qk ?_ GE158.out) | exact HB.out)⟩⟩
        case round =>
         clear H'
         try clear c1
         try clear p1
         try clear q1
         try clear hx1
         try clear c2
         try clear p2
         try clear c3
         try clear c4
         try clear c4b0
         try clear c4b1
         try clear p6
         try clear c7
         try clear c12
         try clear c13
         try clear c15
         try clear c15b0
         try clear p15
         try clear q15
         try clear hx15
         try clear c16
         try clear c16b0
         try clear c17
         try clear c17b0
         try clear c19
         try clear c20
         try clear c25
         try clear c25b0
         try clear c26
         try clear c26b0
         try clear c28
         try clear c29
         try clear c30
         try clear c31
         try clear c34
         try clear c39
         try clear c40
         try clear hcz10_0
         try clear hcz10_1
         try clear hcz10_2
         try clear hcz14_0
         try clear hcz14_1
         try clear hcz32_0
         try clear hcz32_1
         try clear hcz32_2
         try clear hcz35_0
         try clear hcz35_1
         try clear hcz38_0
         try clear hcz38_1
         try clear hcz41_0
         try clear hcz41_1
         try clear hcz41_2
         try clear hcz8_0
         try clear hcz8_1
         try clear hcz8_2
         try clear hfz10_0
         try clear hfz10_1
         try clear hfz10_2
         try clear hfz14_0
         try clear hfz14_1
         try clear hfz32_0
         try clear hfz32_1
         try clear hfz32_2
         try clear hfz35_0
         try clear hfz35_1
         try clear hfz38_0
         try clear hfz38_1
         try clear hfz41_0
         try clear hfz41_1
         try clear hfz41_2
         try clear hfz8_0
         try clear hfz8_1
         try clear hfz8_2
         try clear hx159_0
         try clear hx159_1
         try clear hx159_2
         try clear hx159_3
         try clear hx159_4
         try clear hx159_5
         try clear hx159_6
         try clear hx159_7
         try clear p1
         try clear p15
         try clear p159
         try clear p2
         try clear p6
         try clear q1
         try clear q15
         try clear q159
         obtain ⟨x10_3, x159001_3, u159001, rfl, HA, HK3, HO_159001, BK155, BK156, BK158, HB⟩ := hrel
         cases gk with
         | zero => exact absurd HA.out (by simp [Qm.l3])
         | succ k3 =>
          have H := HA.out
          clear HA
          simp only [Qm.l3] at H
          by_cases c43 : x10_3 < (l0_2.length : Int)
          ·rw [if_pos c43] at H
           have c43b0 : decide (x10_3 < (l0_2.length : Int)) = true := decide_eq_true c43
           clear c43
           by_cases c44 : 0 ≤ x10_3
           ·rw [if_pos c44] at H
            have c44b0 : decide (0 ≤ x10_3) = true := decide_eq_true c44
            clear c44
            by_cases c45 : x10_3 < (l0_2.length : Int)
            ·rw [if_pos c45] at H
             have c45b0 : decide (x10_3 < (l0_2.length : Int)) = true := decide_eq_true c45
             clear c45
             replace H := Option.bind_eq_some_iff.mp H
             obtain ⟨t169, A460, H⟩ := H
             replace H : (if x159001_3.length < 8796093022208 then (Qm.l3 k3 (l0_2.length : Int) (wrap64 (x10_3 + 1)) l0_0 l0_1 l0_2 (wrap64 ((l0_2.length : Int) + (wrap64 (2 * (l0_0.length : Int))))) (x159001_3 ++ [(⟨x10_3, t169⟩ : S92)])) else (none)) = some (r1, r2) := H
             have A46 := Qf.mk A460
             clear A460
             by_cases c47 : x159001_3.length < 8796093022208
             ·rw [if_pos c47] at H
              have LMc47 := Qf.mk c47
              clear c47
              obtain ⟨y170, hy170⟩ : ∃ y_ : List (S92), y_ = (x159001_3 ++ [(⟨x10_3, t169⟩ : S92)]) := ⟨_, rfl⟩
              replace H : (Qm.l3 k3 (l0_2.length : Int) (wrap64 (x10_3 + 1)) l0_0 l0_1 l0_2 (wrap64 ((l0_2.length : Int) + (wrap64 (2 * (l0_0.length : Int))))) y170) = some (r1, r2) := by first | (rw [hy170]; with_reducible exact H) | (have H2_ := (Option.bind_some _ _).symm.trans H; rw [hy170]; with_reducible exact H2_) | (have H2_ := (Option.bind_some _ _).symm.trans H; with_reducible exact H2_) | with_reducible exact H | (rw [hy170]; exact H) | exact H
              have Ny170 := Qf.mk hy170
              clear hy170
              have H' := Qf.mk H
              clear H
              try go_wp2
              have n0_ := Qf.mk (Kd.QT HO_159001.out)
              have n1_ := Qf.mk (Qg BK155.out)
              have n2_ := Qf.mk (Qg BK156.out)
              have n3_ := Qf.mk (Qg BK158.out)
              have n4_ := Qf.mk (Qj HB.out)
              clear HO_159001
              clear BK155
              clear BK156
              clear BK158
              clear HB
              have HO_159001 := n0_
              have BK155 := n1_
              have BK156 := n2_
              have BK158 := n3_
              have HB := n4_
              clear n0_ n1_ n2_ n3_ n4_
              have p168 : 0 ≤ (x10_3 : Int) := of_decide_eq_true (by first | (with_reducible assumption) | assumption)
              have q168 : x10_3 < (l0_2.length : Int) := of_decide_eq_true (by first | (with_reducible assumption) | assumption)
              obtain ⟨ad168, A168_5, c168_5, e168, hx168_0, hx168_1, hx168_2, hx168_3, hx168_4, hx168_5, hx168_6, hx168_7, hl168_5, hi168_5⟩ := at_T58 HR0_2.out x10_3 p168 q168
              have hw168_7 := hx168_7
              have hw168_6 := hx168_6
              have hw168_5 := hx168_5
              have hw168_4 := hx168_4
              have hw168_3 := hx168_3
              have hw168_2 := hx168_2
              have hw168_1 := hx168_1
              have hw168_0 := hx168_0
              cases e168
              replace hx168_0 := (HB.out.cell (World.block_lt_of_cell? w _ hx168_0)).trans hx168_0
              replace hx168_1 := (HB.out.cell (World.block_lt_of_cell? w _ hx168_1)).trans hx168_1
              replace hx168_2 := (HB.out.cell (World.block_lt_of_cell? w _ hx168_2)).trans hx168_2
              replace hx168_3 := (HB.out.cell (World.block_lt_of_cell? w _ hx168_3)).trans hx168_3
              replace hx168_4 := (HB.out.cell (World.block_lt_of_cell? w _ hx168_4)).trans hx168_4
              replace hx168_5 := (HB.out.cell (World.block_lt_of_cell? w _ hx168_5)).trans hx168_5
              replace hx168_6 := (HB.out.cell (World.block_lt_of_cell? w _ hx168_6)).trans hx168_6
              replace hx168_7 := (HB.out.cell (World.block_lt_of_cell? w _ hx168_7)).trans hx168_7
              have HR168_5 := Qf.mk hi168_5
              have HC168_5 := Qf.mk hl168_5
              clear hi168_5 hl168_5
              replace p168 := eq_true p168
              replace q168 := eq_true q168
              refine start_ (n := 16) (S := fun w' => w'.cell? ⟨gb158, 0, none⟩ = some (.int .i64 (wrap64 ((l0_2.length : Int) + (wrap64 (2 * (l0_0.length : Int)))))) ∧ w'.cell? ⟨gb158, 1, none⟩ = some (u159001) ∧ w'.cell? ⟨gb155, 0, none⟩ = some (.slice A0_0 l0_0.length c0_0) ∧ w'.cell? ⟨gb155, 1, none⟩ = some (.slice A0_1 l0_1.length c0_1) ∧ w'.cell? ⟨gb155, 2, none⟩ = some (.slice (some ad168) l0_2.length c0_2) ∧ w'.cell? (ad168.add ((x10_3).toNat * 8)) = some (.int .i64 ((Qh l0_2 x10_3).f0)) ∧ w'.cell? ⟨(ad168.add ((x10_3).toNat * 8)).block, (ad168.add ((x10_3).toNat * 8)).off + 1, none⟩ = some (.int .i64 ((Qh l0_2 x10_3).f1)) ∧ w'.cell? ⟨(ad168.add ((x10_3).toNat * 8)).block, (ad168.add ((x10_3).toNat * 8)).off + 2, none⟩ = some (.int .i64 ((Qh l0_2 x10_3).f2)) ∧ w'.cell? ⟨(ad168.add ((x10_3).toNat * 8)).block, (ad168.add ((x10_3).toNat * 8)).off + 3, none⟩ = some (.int .i64 ((Qh l0_2 x10_3).f3)) ∧ w'.cell? ⟨(ad168.add ((x10_3).toNat * 8)).block, (ad168.add ((x10_3).toNat * 8)).off + 4, none⟩ = some (.int .i64 ((Qh l0_2 x10_3).f4)) ∧ w'.cell? ⟨(ad168.add ((x10_3).toNat * 8)).block, (ad168.add ((x10_3).toNat * 8)).off + 5, none⟩ = some (.slice A168_5 ((Qh l0_2 x10_3).f5.f0).length c168_5) ∧ w'.cell? ⟨(ad168.add ((x10_3).toNat * 8)).block, (ad168.add ((x10_3).toNat * 8)).off + 6, none⟩ = some (.int .i64 ((Qh l0_2 x10_3).f5.f1)) ∧ w'.cell? ⟨(ad168.add ((x10_3).toNat * 8)).block, (ad168.add ((x10_3).toNat * 8)).off + 7, none⟩ = some (.int .i64 ((Qh l0_2 x10_3).f5.f2))) (ds := [15]) #[false, false, false, false, false, false, false, false, false, false, false, false, false, false, false, false] (by kernel_rfl) rfl rfl ⟨(Qe BK158.out 0).trans rfl, (Qe BK158.out 1).trans rfl, (Qe BK155.out 0).trans rfl, (Qe BK155.out 1).trans rfl, (Qe BK155.out 2).trans rfl, ((HB.out.cell (World.block_lt_of_cell? w _ hw168_0)).trans hw168_0), ((HB.out.cell (World.block_lt_of_cell? w _ hw168_1)).trans hw168_1), ((HB.out.cell (World.block_lt_of_cell? w _ hw168_2)).trans hw168_2), ((HB.out.cell (World.block_lt_of_cell? w _ hw168_3)).trans hw168_3), ((HB.out.cell (World.block_lt_of_cell? w _ hw168_4)).trans hw168_4), ((HB.out.cell (World.block_lt_of_cell? w _ hw168_5)).trans hw168_5), ((HB.out.cell (World.block_lt_of_cell? w _ hw168_6)).trans hw168_6), ((HB.out.cell (World.block_lt_of_cell? w _ hw168_7)).trans hw168_7)⟩ (fun hHeld => ?_); refine with_tabW Qm.tab20 Qm.bits20 (fun HT_ HW_ => ?_)
              generalize wr.drew = w48 at HO_159001 BK155 BK156 BK158 HB HR168_5 hx168_0 hx168_1 hx168_2 hx168_3 hx168_4 hx168_5 hx168_6 hx168_7 hHeld ⊢
              refine QL (i := 0) (N := some 73) (v := ?_) (a' := ?_) #[true, false, false, false, false, false, false, false, false, false, false, false, false, false, false, false] rfl rfl (QD HT_.out (by kernel_rfl)) (fun _ _ _ h => h) (Or.inl ⟨by rfl, ?_⟩) ?_ ?_
              rotate_left
              ·intro w'
               go_simp
               with_reducible rfl
              rotate_left
              ·simp only [Act.put, List.setIfInBounds_toArray, List.set_cons_zero, List.set_cons_succ, Qt, Qu]
               rfl
              refine QL (i := 2) (N := some 75) (v := ?_) (a' := ?_) #[true, false, true, false, false, false, false, false, false, false, false, false, false, false, false, false] rfl rfl (QD HT_.out (by kernel_rfl)) (fun _ _ _ h => h) (Or.inl ⟨by rfl, ?_⟩) ?_ ?_
              rotate_left
              ·intro w'
               go_simp
               with_reducible rfl
              rotate_left
              ·simp only [Act.put, List.setIfInBounds_toArray, List.set_cons_zero, List.set_cons_succ, Qt, Qu]
               rfl
              refine QL (i := 4) (N := some 77) (v := ?_) (a' := ?_) #[true, false, true, false, true, false, false, false, false, false, false, false, false, false, false, false] rfl rfl (QD HT_.out (by kernel_rfl)) (fun _ _ _ h => h) (Or.inl ⟨by rfl, ?_⟩) ?_ ?_
              rotate_left
              ·intro w'
               go_simp
               with_reducible rfl
              rotate_left
              ·simp only [Act.put, List.setIfInBounds_toArray, List.set_cons_zero, List.set_cons_succ, Qt, Qu]
               rfl
              refine QL (i := 6) (N := some 79) (v := ?_) (a' := ?_) #[true, false, true, false, true, false, true, false, false, false, false, false, false, false, false, false] rfl rfl (QD HT_.out (by kernel_rfl)) (fun _ _ _ h => h) (Or.inl ⟨by rfl, ?_⟩) ?_ ?_
              rotate_left
              ·intro w'
               go_simp
               with_reducible rfl
              rotate_left
              ·simp only [Act.put, List.setIfInBounds_toArray, List.set_cons_zero, List.set_cons_succ, Qt, Qu]
               rfl
              refine take_ (i := 1) (N := some 74) (v := ?_) (a' := ?_) #[true, true, true, false, true, false, true, false, false, false, false, false, false, false, false, false] rfl rfl (Q8 HT_.out HW_.out (by kernel_rfl)) (fun _ _ _ h => h) (Or.inl ⟨by rfl, ?_⟩) hHeld ?_ ?_
              rotate_left
              ·rintro w' ⟨s0, s1, s2, s3, s4, s5, s6, s7, s8, s9, s10, s11, s12⟩
               go_simp
               with_reducible rfl
              rotate_left
              ·simp only [Act.put, List.setIfInBounds_toArray, List.set_cons_zero, List.set_cons_succ, Qt, Qu]
               rfl
              refine take_ (i := 3) (N := some 76) (v := ?_) (a' := ?_) #[true, true, true, true, true, false, true, false, false, false, false, false, false, false, false, false] rfl rfl (Q8 HT_.out HW_.out (by kernel_rfl)) (fun _ _ _ h => h) (Or.inl ⟨by rfl, ?_⟩) hHeld ?_ ?_
              rotate_left
              ·rintro w' ⟨s0, s1, s2, s3, s4, s5, s6, s7, s8, s9, s10, s11, s12⟩
               go_simp
               with_reducible rfl
              rotate_left
              ·simp only [Act.put, List.setIfInBounds_toArray, List.set_cons_zero, List.set_cons_succ, Qt, Qu]
               rfl
              refine take_ (i := 5) (N := some 78) (v := ?_) (a' := ?_) #[true, true, true, true, true, true, true, false, false, false, false, false, false, false, false, false] rfl rfl (Q8 HT_.out HW_.out (by kernel_rfl)) (fun _ _ _ h => h) (Or.inl ⟨by rfl, ?_⟩) hHeld ?_ ?_
              rotate_left
              ·rintro w' ⟨s0, s1, s2, s3, s4, s5, s6, s7, s8, s9, s10, s11, s12⟩
               go_simp
               with_reducible rfl
              rotate_left
              ·simp only [Act.put, List.setIfInBounds_toArray, List.set_cons_zero, List.set_cons_succ, Qt, Qu]
               rfl
              refine QL (i := 7) (N := some 80) (v := ?_) (a' := ?_) #[true, true, true, true, true, true, true, true, false, false, false, false, false, false, false, false] rfl rfl (QD HT_.out (by kernel_rfl)) (fun _ _ _ h => h) (Or.inl ⟨by rfl, ?_⟩) ?_ ?_
              rotate_left
              ·intro w'
               go_simp
               with_reducible rfl
              rotate_left
              ·simp only [Act.put, List.setIfInBounds_toArray, List.set_cons_zero, List.set_cons_succ, Qt, Qu]
               rfl
              refine QL (i := 8) (N := some 81) (v := ?_) (a' := ?_) #[true, true, true, true, true, true, true, true, true, false, false, false, false, false, false, false] rfl rfl (QD HT_.out (by kernel_rfl)) (fun _ _ _ h => h) (Or.inl ⟨by rfl, ?_⟩) ?_ ?_
              rotate_left
              ·intro w'
               go_simp
               with_reducible rfl
              rotate_left
              ·simp only [Act.put, List.setIfInBounds_toArray, List.set_cons_zero, List.set_cons_succ, Qt, Qu]
               rfl
              refine take_ (i := 9) (N := some 82) (v := ?_) (a' := ?_) #[true, true, true, true, true, true, true, true, true, true, false, false, false, false, false, false] rfl rfl (Q8 HT_.out HW_.out (by kernel_rfl)) (fun _ _ _ h => h) (Or.inl ⟨by rfl, ?_⟩) hHeld ?_ ?_
              rotate_left
              ·rintro w' ⟨s0, s1, s2, s3, s4, s5, s6, s7, s8, s9, s10, s11, s12⟩
               go_simp
               with_reducible rfl
              rotate_left
              ·simp only [Act.put, List.setIfInBounds_toArray, List.set_cons_zero, List.set_cons_succ, Qt, Qu]
               rfl
              refine one_ (i := 10) (N := some 83) #[true, true, true, true, true, true, true, true, true, true, true, false, false, false, false, false] rfl rfl (one_of HT_.out (by kernel_rfl)) (by decide) (fun K hK => ?_)
              refine goes_ Try.func19 (by kernel_rfl) rfl #[.agg #[.slice A0_0 l0_0.length c0_0, .slice A0_1 l0_1.length c0_1, .slice (some ad168) l0_2.length c0_2], .int .i64 ((Qh l0_2 x10_3).f1)] (by rfl) rfl rfl (by (try simp only [List.map_toArray, List.map_cons, List.map_nil]); first | done | rfl | (simp only [List.length_drop, List.length_take]; rfl)) ?_
              with_reducible refine (QW.calls k3 _ _ l0_0 _ _ l0_1 _ _ l0_2 ((Qh l0_2 x10_3).f1) t169 _ ?side1 ?side2 ?side3 ?side4 ?side5 ?side6 A46.out).mono ?_
              (case side1 => repeat (first | exact (Kd.Qr HR0_0.out HB.out) | (with_reducible refine Kd.QG ?_ _) | (with_reducible refine Kd.QH ?_ _) | (with_reducible refine Kd.QO ?_)))
              (case side2 => exact HC0_0.out)
              (case side3 => repeat (first | exact (Kd.Qr HR0_1.out HB.out) | (with_reducible refine Kd.QG ?_ _) | (with_reducible refine Kd.QH ?_ _) | (with_reducible refine Kd.QO ?_)))
              (case side4 => exact HC0_1.out)
              (case side5 => repeat (first | exact (Kd.Qr HR0_2.out HB.out) | (with_reducible refine Kd.QG ?_ _) | (with_reducible refine Kd.QH ?_ _) | (with_reducible refine Kd.QO ?_)))
              (case side6 => exact HC0_2.out)
              rintro e w49 ⟨rfl, hb⟩
              refine ⟨_, rfl, ?_⟩
              have n0_ := Qf.mk (Kd.R_below (by (with_reducible repeat (first | apply Kd.QP | apply Kd.QQ | apply Kd.QT)); exact HO_159001.out) hb)
              have n1_ := Qf.mk (QF (g := gb155) (o := .cells #[.slice A0_0 l0_0.length c0_0, .slice A0_1 l0_1.length c0_1, .slice (some ad168) l0_2.length c0_2] 37 (0, 0)) (by (with_reducible repeat (first | refine Qd ?_ _ | refine Qg ?_ | refine Qb ?_ _)); exact BK155.out) hb)
              have n2_ := Qf.mk (QF (g := gb156) (o := .cells #[.int .i64 0, .slice none 0 0] 51 (0, 0)) (by (with_reducible repeat (first | refine Qd ?_ _ | refine Qg ?_ | refine Qb ?_ _)); exact BK156.out) hb)
              have n3_ := Qf.mk (QF (g := gb158) (o := .cells #[.int .i64 (wrap64 ((l0_2.length : Int) + (wrap64 (2 * (l0_0.length : Int))))), u159001] 51 (0, 0)) (by (with_reducible repeat (first | refine Qd ?_ _ | refine Qg ?_ | refine Qb ?_ _)); exact BK158.out) hb)
              have n4_ := Qf.mk (Qo (by repeat (first | (with_reducible first | exact HB.out | apply Qi | apply Qa | apply Qj | refine Qk ?_ GE155.out | refine Qk ?_ GE156.out | refine Qk ?_ GE158.out) | exact HB.out)) hb)
              clear HO_159001
              clear BK155
              clear BK156
              clear BK158
              clear HB
              have HO_159001 := n0_
              have BK155 := n1_
              have BK156 := n2_
              have BK158 := n3_
              have HB := n4_
              clear n0_ n1_ n2_ n3_ n4_
              (try clear hb)
              (try clear hb2)
              (try clear hk)
              (try clear hi)
              refine hK.out _ _ ⟨(Qe BK158.out 0).trans rfl, (Qe BK158.out 1).trans rfl, (Qe BK155.out 0).trans rfl, (Qe BK155.out 1).trans rfl, (Qe BK155.out 2).trans rfl, ((HB.out.cell (World.block_lt_of_cell? w _ hw168_0)).trans hw168_0), ((HB.out.cell (World.block_lt_of_cell? w _ hw168_1)).trans hw168_1), ((HB.out.cell (World.block_lt_of_cell? w _ hw168_2)).trans hw168_2), ((HB.out.cell (World.block_lt_of_cell? w _ hw168_3)).trans hw168_3), ((HB.out.cell (World.block_lt_of_cell? w _ hw168_4)).trans hw168_4), ((HB.out.cell (World.block_lt_of_cell? w _ hw168_5)).trans hw168_5), ((HB.out.cell (World.block_lt_of_cell? w _ hw168_6)).trans hw168_6), ((HB.out.cell (World.block_lt_of_cell? w _ hw168_7)).trans hw168_7)⟩ (fun hHeld => ?_)
              clear hK K
              refine norm_ (a' := ?_) ?_ ?_
              rotate_left
              ·show Act.put _ (some 83) _ = _
               simp only [Act.put, List.setIfInBounds_toArray, List.set_cons_zero, List.set_cons_succ, Qt, Qu]
               rfl
              refine QL (i := 11) (N := some 84) (v := ?_) (a' := ?_) #[true, true, true, true, true, true, true, true, true, true, true, true, false, false, false, false] rfl rfl (QD HT_.out (by kernel_rfl)) (fun _ _ _ h => h) (Or.inl ⟨by rfl, ?_⟩) ?_ ?_
              rotate_left
              ·intro w'
               go_simp
               with_reducible rfl
              rotate_left
              ·simp only [Act.put, List.setIfInBounds_toArray, List.set_cons_zero, List.set_cons_succ, Qt, Qu]
               rfl
              refine one_ (i := 12) (N := some 85) #[true, true, true, true, true, true, true, true, true, true, true, true, true, false, false, false] rfl rfl (one_of HT_.out (by kernel_rfl)) (by decide) (fun K hK => ?_)
              refine value_ (w1 := ?_) (v := ?_) (by rfl) rfl ?_ ?_
              rotate_left 2
              ·go_simp
               constructor
               ·rfl
               ·rfl
              refine hK.out _ _ ⟨(Qe (Qb BK158.out _) 0).trans rfl, (Qe (Qb BK158.out _) 1).trans rfl, (Qe (Qb BK155.out _) 0).trans rfl, (Qe (Qb BK155.out _) 1).trans rfl, (Qe (Qb BK155.out _) 2).trans rfl, (World.cell?_alloc_lt _ _ _ (World.block_lt_of_cell? _ _ (((HB.out.cell (World.block_lt_of_cell? w _ hw168_0)).trans hw168_0)))).trans (((HB.out.cell (World.block_lt_of_cell? w _ hw168_0)).trans hw168_0)), (World.cell?_alloc_lt _ _ _ (World.block_lt_of_cell? _ _ (((HB.out.cell (World.block_lt_of_cell? w _ hw168_1)).trans hw168_1)))).trans (((HB.out.cell (World.block_lt_of_cell? w _ hw168_1)).trans hw168_1)), (World.cell?_alloc_lt _ _ _ (World.block_lt_of_cell? _ _ (((HB.out.cell (World.block_lt_of_cell? w _ hw168_2)).trans hw168_2)))).trans (((HB.out.cell (World.block_lt_of_cell? w _ hw168_2)).trans hw168_2)), (World.cell?_alloc_lt _ _ _ (World.block_lt_of_cell? _ _ (((HB.out.cell (World.block_lt_of_cell? w _ hw168_3)).trans hw168_3)))).trans (((HB.out.cell (World.block_lt_of_cell? w _ hw168_3)).trans hw168_3)), (World.cell?_alloc_lt _ _ _ (World.block_lt_of_cell? _ _ (((HB.out.cell (World.block_lt_of_cell? w _ hw168_4)).trans hw168_4)))).trans (((HB.out.cell (World.block_lt_of_cell? w _ hw168_4)).trans hw168_4)), (World.cell?_alloc_lt _ _ _ (World.block_lt_of_cell? _ _ (((HB.out.cell (World.block_lt_of_cell? w _ hw168_5)).trans hw168_5)))).trans (((HB.out.cell (World.block_lt_of_cell? w _ hw168_5)).trans hw168_5)), (World.cell?_alloc_lt _ _ _ (World.block_lt_of_cell? _ _ (((HB.out.cell (World.block_lt_of_cell? w _ hw168_6)).trans hw168_6)))).trans (((HB.out.cell (World.block_lt_of_cell? w _ hw168_6)).trans hw168_6)), (World.cell?_alloc_lt _ _ _ (World.block_lt_of_cell? _ _ (((HB.out.cell (World.block_lt_of_cell? w _ hw168_7)).trans hw168_7)))).trans (((HB.out.cell (World.block_lt_of_cell? w _ hw168_7)).trans hw168_7))⟩ (fun hHeld => ?_)
              clear hK K
              refine norm_ (a' := ?_) ?_ ?_
              rotate_left
              ·show Act.put _ (some 85) _ = _
               simp only [Act.put, List.setIfInBounds_toArray, List.set_cons_zero, List.set_cons_succ, Qt, Qu]
               rfl
              refine one_ (i := 13) (N := some 86) #[true, true, true, true, true, true, true, true, true, true, true, true, true, true, false, false] rfl rfl (one_of HT_.out (by kernel_rfl)) (by decide) (fun K hK => ?_)
              refine Kd.R_append_step k92 (w0 := w) w.heap.size (by rfl) (.tmp 74) (.tmp 85) 49 92 (.agg #[(.int .i64 0), (.int .i64 0)]) 16 rfl Try.underlying49 info92 rfl (by decide) (by omega) u159001 x159001_3 (⟨x10_3, t169⟩ : S92) [.int .i64 x10_3, .int .i64 t169] (fun _ => True) (fun _ => False) rfl rfl ?aP (fun _ hk => hk.elim) ?aF ?aO ?aB ?aS ?aL ?_
              (case aP => exact k92_mkM _ _ _ (⟨x10_3, t169⟩ : S92))
              (case aB => exact (by repeat (first | (with_reducible first | exact HB.out | apply Qi | apply Qa | apply Qj | refine Qk ?_ GE155.out | refine Qk ?_ GE156.out | refine Qk ?_ GE158.out) | exact HB.out)))
              (case aF => exact (fun _ _ => trivial))
              (case aO => exact (by (with_reducible repeat (first | apply Kd.QP | apply Kd.QQ | apply Kd.QT)); exact HO_159001.out))
              (case aS => exact (Qp (by repeat (first | (with_reducible first | exact HB.out | apply Qi | apply Qa | apply Qj | refine Qk ?_ GE155.out | refine Qk ?_ GE156.out | refine Qk ?_ GE158.out) | exact HB.out))))
              (case aL => have := LMc47.out; omega)
              intro v171 w50 ho hb hg hat
              rw [← Ny170.out] at ho
              have n0_ := Qf.mk (blk_grown (g := gb155) (o := .cells #[.slice A0_0 l0_0.length c0_0, .slice A0_1 l0_1.length c0_1, .slice (some ad168) l0_2.length c0_2] 37 (0, 0)) (by (with_reducible repeat (first | refine Qd ?_ _ | refine Qg ?_ | refine Qb ?_ _)); exact BK155.out) hg (Kd.R_ne HO_159001.out BK155.out (by decide)))
              have n1_ := Qf.mk (blk_grown (g := gb156) (o := .cells #[.int .i64 0, .slice none 0 0] 51 (0, 0)) (by (with_reducible repeat (first | refine Qd ?_ _ | refine Qg ?_ | refine Qb ?_ _)); exact BK156.out) hg (Kd.R_ne HO_159001.out BK156.out (by decide)))
              have n2_ := Qf.mk (blk_grown (g := gb158) (o := .cells #[.int .i64 (wrap64 ((l0_2.length : Int) + (wrap64 (2 * (l0_0.length : Int))))), u159001] 51 (0, 0)) (by (with_reducible repeat (first | refine Qd ?_ _ | refine Qg ?_ | refine Qb ?_ _)); exact BK158.out) hg (Kd.R_ne HO_159001.out BK158.out (by decide)))
              have n3_ := Qf.mk (hb)
              have n4_ := Qf.mk (ho)
              clear BK155
              clear BK156
              clear BK158
              clear HB
              clear HO_159001
              have BK155 := n0_
              have BK156 := n1_
              have BK158 := n2_
              have HB := n3_
              have HO172 := n4_
              clear n0_ n1_ n2_ n3_ n4_
              clear ho hb hg hat
              obtain ⟨Ao51, co51, eo51⟩ := Kd.R_slice HO172.out
              (first | subst eo51 | (injection eo51 with f1_ f2_ f3_; have f4_ := f1_.symm; have f5_ := f3_.symm; clear f1_ f2_ f3_; subst f4_; subst f5_))
              refine hK.out _ _ ⟨(Qe BK158.out 0).trans rfl, (Qe BK158.out 1).trans rfl, (Qe BK155.out 0).trans rfl, (Qe BK155.out 1).trans rfl, (Qe BK155.out 2).trans rfl, ((HB.out.cell (World.block_lt_of_cell? w _ hw168_0)).trans hw168_0), ((HB.out.cell (World.block_lt_of_cell? w _ hw168_1)).trans hw168_1), ((HB.out.cell (World.block_lt_of_cell? w _ hw168_2)).trans hw168_2), ((HB.out.cell (World.block_lt_of_cell? w _ hw168_3)).trans hw168_3), ((HB.out.cell (World.block_lt_of_cell? w _ hw168_4)).trans hw168_4), ((HB.out.cell (World.block_lt_of_cell? w _ hw168_5)).trans hw168_5), ((HB.out.cell (World.block_lt_of_cell? w _ hw168_6)).trans hw168_6), ((HB.out.cell (World.block_lt_of_cell? w _ hw168_7)).trans hw168_7)⟩ (fun hHeld => ?_)
              clear hK K
              refine norm_ (a' := ?_) ?_ ?_
              rotate_left
              ·show Act.put _ (some 86) _ = _
               simp only [Act.put, List.setIfInBounds_toArray, List.set_cons_zero, List.set_cons_succ, Qt, Qu]
               rfl
              refine QL (i := 14) (N := some 87) (v := ?_) (a' := ?_) #[true, true, true, true, true, true, true, true, true, true, true, true, true, true, true, false] rfl rfl (QD HT_.out (by kernel_rfl)) (fun _ _ _ h => h) (Or.inl ⟨by rfl, ?_⟩) ?_ ?_
              rotate_left
              ·intro w'
               go_simp
               with_reducible rfl
              rotate_left
              ·simp only [Act.put, List.setIfInBounds_toArray, List.set_cons_zero, List.set_cons_succ, Qt, Qu]
               rfl
              refine last_ (i := 15) (N := none) #[true, true, true, true, true, true, true, true, true, true, true, true, true, true, true, true] rfl rfl (one_of HT_.out (by kernel_rfl)) (by decide) (fun K hK => ?_)
              have hs52 : w50.cell? ⟨gb158, 1, none⟩ = some (u159001) := (Qe BK158.out 1).trans rfl
              have hfs52 := Qc BK158.out 1
              have hns52_0 := NB155_158.out
              have hns52_1 := NB156_158.out
              have hms52_0 := NB158_155.out
              have hms52_1 := NB158_156.out
              refine skip_ (w1 := ?_) (by rfl) rfl ?_ ?_
              rotate_left
              ·go_simp
               rfl
              refine hK.out _ _ ?_
              clear hK K
              refine done_ (done_of HT_.out (by kernel_rfl)) ?_
              try go_wp2
              go_roundg k3
              case measure => have := HK1.out; have := HK2.out; have := HK3.out; omega
              case rel => exact ⟨(wrap64 (x10_3 + 1)), (y170), (.slice Ao51 y170.length co51), (by first | rfl | (simp; done) | (simp [*]; done)), H', ⟨by have := HK1.out; have := HK2.out; have := HK3.out; omega⟩, ⟨by (with_reducible repeat (first | apply Kd.QP | apply Kd.QQ | apply Kd.QT)); exact Kd.Q9 (Kd.R_far (p := ⟨gb158, 1, none⟩) (Kd.R_types HO172.out BK158.out (by decide)) (fun _ hk => hk.2) (.slice Ao51 y170.length co51)) (fun _ hk => trivial)⟩, ⟨by (with_reducible repeat (first | refine Qd ?_ _ | refine Qg ?_ | refine Qb ?_ _)); refine Qv ?_ NB155_158.out _; (with_reducible repeat (first | refine Qd ?_ _ | refine Qg ?_ | refine Qb ?_ _)); exact BK155.out⟩, ⟨by (with_reducible repeat (first | refine Qd ?_ _ | refine Qg ?_ | refine Qb ?_ _)); refine Qv ?_ NB156_158.out _; (with_reducible repeat (first | refine Qd ?_ _ | refine Qg ?_ | refine Qb ?_ _)); exact BK156.out⟩, ⟨by (with_reducible repeat (first | refine Qd ?_ _ | refine Qg ?_ | refine Qb ?_ _)); refine Qy (cs := #[.int .i64 (wrap64 ((l0_2.length : Int) + (wrap64 (2 * (l0_0.length : Int))))), u159001]) ?_ 1 _ rfl; (with_reducible repeat (first | refine Qd ?_ _ | refine Qg ?_ | refine Qb ?_ _)); exact BK158.out⟩, ⟨by repeat (first | (with_reducible first | exact HB.out | apply Qi | apply Qa | apply Qj | refine Qk ?_ GE155.out | refine Qk ?_ GE156.out | refine Qk ?_ GE158.out) | exact HB.out)⟩⟩
             ·rw [if_neg c47] at H
              exact absurd H (by simp)
            ·rw [if_neg c45] at H
             exact absurd H (by simp)
           ·rw [if_neg c44] at H
            exact absurd H (by simp)
          ·rw [if_neg c43] at H
           have c43b0 : decide (x10_3 < (l0_2.length : Int)) = false := decide_eq_false c43
           clear c43
           simp only [Option.some.injEq, Prod.mk.injEq] at H
           obtain ⟨rfl, rfl⟩ := H
           have hnb53 := NB158_155.out
           have hnc53 := NB155_158.out
           have hnb54 := NB158_156.out
           have hnc54 := NB156_158.out
           have hcz55_0 : wr.cell? ⟨gb158, 0, none⟩ = some (.int .i64 (wrap64 ((l0_2.length : Int) + (wrap64 (2 * (l0_0.length : Int)))))) := (Qe BK158.out 0).trans rfl
           have hcz55_1 : wr.cell? ⟨gb158, 1, none⟩ = some (u159001) := (Qe BK158.out 1).trans rfl
           have hfz55_0 := Qc BK158.out 0
           have hfz55_1 := Qc BK158.out 1
           have hnb56 := NB156_155.out
           have hnc56 := NB155_156.out
           have hcz57_0 : wr.cell? ⟨gb156, 0, none⟩ = some (.int .i64 0) := (Qe BK156.out 0).trans rfl
           have hcz57_1 : wr.cell? ⟨gb156, 1, none⟩ = some (.slice none 0 0) := (Qe BK156.out 1).trans rfl
           have hfz57_0 := Qc BK156.out 0
           have hfz57_1 := Qc BK156.out 1
           obtain ⟨Ao58, co58, eo58⟩ := Kd.R_slice HO_159001.out
           subst eo58
           go_wp2
           refine bodyPost_ret (results_cell_row rfl _ _ gb156 51 #[.int .i64 (wrap64 ((l0_2.length : Int) + (wrap64 (2 * (l0_0.length : Int))))), .slice Ao58 x159001_3.length co58] (0, 0) _ rfl (by (with_reducible repeat (first | refine Qd ?_ _ | refine Qg ?_ | refine Qb ?_ _)); refine Qy (cs := #[.int .i64 (wrap64 ((l0_2.length : Int) + (wrap64 (2 * (l0_0.length : Int))))), .slice none 0 0]) ?_ 1 _ rfl; (with_reducible repeat (first | refine Qd ?_ _ | refine Qg ?_ | refine Qb ?_ _)); refine Qy (cs := #[.int .i64 0, .slice none 0 0]) ?_ 0 _ rfl; (with_reducible repeat (first | refine Qd ?_ _ | refine Qg ?_ | refine Qb ?_ _)); exact BK156.out) Try.underlying51 rfl (by kernel_rfl)) rfl ?_
           exact ⟨_, by first | rfl | (simp [Qw, Qx] <;> rfl) | (simp [*, Qw, Qx] <;> rfl), by (with_reducible repeat (first | apply Kd.QP | apply Kd.QQ | apply Kd.QT)); exact Kd.Q9 (Kd.R_far (p := ⟨gb156, 1, none⟩) (Kd.R_far (p := ⟨gb156, 0, none⟩) (Kd.R_types HO_159001.out BK156.out (by decide)) (fun _ hk => hk.2) (.int .i64 (wrap64 ((l0_2.length : Int) + (wrap64 (2 * (l0_0.length : Int))))))) (fun _ hk => hk.2) (.slice Ao58 x159001_3.length co58)) (fun _ hk => trivial), by repeat (first | (with_reducible first | exact HB.out | apply Qi | apply Qa | apply Qj | refine Qk ?_ GE155.out | refine Qk ?_ GE156.out | refine Qk ?_ GE158.out) | exact HB.out)⟩
 ·rw [if_neg c4] at H
  have c4b0 : (t157 == 0) = false := beq_eq_false_iff_ne.mpr c4
  have c4b1 : (t157 != 0) = true := bne_iff_ne.mpr c4
  simp only [Option.some.injEq, Prod.mk.injEq] at H
  obtain ⟨rfl, rfl⟩ := H
  go_enter Try.func43, Try.ntmps43
  go_wp2_with (first | ((with_reducible refine QM (N := 2) rfl ?_); refine QI ?hg (N := 2) ?hd (cs := #[.slice A0_0 l0_0.length c0_0, .slice A0_1 l0_1.length c0_1, .slice A0_2 l0_2.length c0_2]) (t := 37) ?hr ?_; (case hd => rfl); (case hg => rfl); (case hr => first | (go_simp; done) | (go_simp; rfl)); intro gb155 hg w59 hbox hb; have n0_ := Qf.mk (Qo (by repeat (first | (with_reducible first | exact HB.out | apply Qi | apply Qa | apply Qj) | exact HB.out)) hb); have n1_ := Qf.mk (hbox); have n2_ := Qf.mk ((by rw [hg]; exact (Qp (by repeat (first | (with_reducible first | exact HB.out | apply Qi | apply Qa | apply Qj) | exact HB.out))) : w.heap.size ≤ gb155)); have n3_ := Qf.mk ((by rw [hg]; exact (Qp (by repeat (first | (with_reducible first | exact HB.out | apply Qi | apply Qa | apply Qj) | exact HB.out))) : w.heap.size ≤ gb155)); clear HB; have HB := n0_; have BK155 := n1_; have GW155 := n2_; have GE155 := n3_; clear n0_ n1_ n2_ n3_; clear hb hbox hg) | ((with_reducible refine QM (N := 4) rfl ?_); refine QI ?hg (N := 4) ?hd (cs := #[.int .i64 0, .slice none 0 0]) (t := 51) ?hr ?_; (case hd => rfl); (case hg => rfl); (case hr => first | (go_simp; done) | (go_simp; rfl)); intro gb156 hg w60 hbox hb; have n0_ := Qf.mk (QF (g := gb155) (o := .cells #[.slice A0_0 l0_0.length c0_0, .slice A0_1 l0_1.length c0_1, .slice A0_2 l0_2.length c0_2] 37 (0, 0)) (by (with_reducible repeat (first | refine Qd ?_ _ | refine Qg ?_ | refine Qb ?_ _)); exact BK155.out) hb); have n1_ := Qf.mk (Qo (by repeat (first | (with_reducible first | exact HB.out | apply Qi | apply Qa | apply Qj | refine Qk ?_ GE155.out) | exact HB.out)) hb); have n2_ := Qf.mk (hbox); have n3_ := Qf.mk ((by rw [hg]; exact (Qp (by repeat (first | (with_reducible first | exact HB.out | apply Qi | apply Qa | apply Qj | refine Qk ?_ GE155.out) | exact HB.out))) : w.heap.size ≤ gb156)); have n4_ := Qf.mk ((by rw [hg]; exact (Qp (by repeat (first | (with_reducible first | exact HB.out | apply Qi | apply Qa | apply Qj | refine Qk ?_ GE155.out) | exact HB.out))) : w.heap.size ≤ gb156)); have n5_ := Qf.mk ((by rw [hg]; exact Nat.ne_of_lt (QR (g := gb155) (o := .cells #[.slice A0_0 l0_0.length c0_0, .slice A0_1 l0_1.length c0_1, .slice A0_2 l0_2.length c0_2] 37 (0, 0)) (by (with_reducible repeat (first | refine Qd ?_ _ | refine Qg ?_ | refine Qb ?_ _)); exact BK155.out)) : gb155 ≠ gb156)); have n6_ := Qf.mk ((by rw [hg]; exact Nat.ne_of_gt (QR (g := gb155) (o := .cells #[.slice A0_0 l0_0.length c0_0, .slice A0_1 l0_1.length c0_1, .slice A0_2 l0_2.length c0_2] 37 (0, 0)) (by (with_reducible repeat (first | refine Qd ?_ _ | refine Qg ?_ | refine Qb ?_ _)); exact BK155.out)) : gb156 ≠ gb155)); clear BK155; clear HB; have BK155 := n0_; have HB := n1_; have BK156 := n2_; have GW156 := n3_; have GE156 := n4_; have NB155_156 := n5_; have NB156_155 := n6_; clear n0_ n1_ n2_ n3_ n4_ n5_ n6_; clear hb hbox hg; have hnb61 := NB155_156.out; have hnc61 := NB156_155.out; have hcz62_0 : w60.cell? ⟨gb155, 0, none⟩ = some (.slice A0_0 l0_0.length c0_0) := (Qe BK155.out 0).trans rfl; have hcz62_1 : w60.cell? ⟨gb155, 1, none⟩ = some (.slice A0_1 l0_1.length c0_1) := (Qe BK155.out 1).trans rfl; have hcz62_2 : w60.cell? ⟨gb155, 2, none⟩ = some (.slice A0_2 l0_2.length c0_2) := (Qe BK155.out 2).trans rfl; have hfz62_0 := Qc BK155.out 0; have hfz62_1 := Qc BK155.out 1; have hfz62_2 := Qc BK155.out 2) | ((with_reducible refine Q4 (f := 20) rfl ?_); refine goesL_ (some 12) rfl rfl Try.func20 (by kernel_rfl) rfl #[.agg #[.slice A0_0 l0_0.length c0_0, .slice A0_1 l0_1.length c0_1, .slice A0_2 l0_2.length c0_2]] rfl (by (try simp only [List.map_toArray, List.map_cons, List.map_nil]); first | done | rfl | (simp only [List.length_drop, List.length_take]; rfl)) ?_; (with_reducible refine (Qn.calls k _ _ l0_0 _ _ l0_1 _ _ l0_2 t157 _ ?side1 ?side2 ?side3 ?side4 ?side5 ?side6 A3.out).mono ?_); (case side1 => repeat (first | exact (Kd.Qr HR0_0.out HB.out) | (with_reducible refine Kd.QG ?_ _) | (with_reducible refine Kd.QH ?_ _) | (with_reducible refine Kd.QO ?_))); (case side2 => exact HC0_0.out); (case side3 => repeat (first | exact (Kd.Qr HR0_1.out HB.out) | (with_reducible refine Kd.QG ?_ _) | (with_reducible refine Kd.QH ?_ _) | (with_reducible refine Kd.QO ?_))); (case side4 => exact HC0_1.out); (case side5 => repeat (first | exact (Kd.Qr HR0_2.out HB.out) | (with_reducible refine Kd.QG ?_ _) | (with_reducible refine Kd.QH ?_ _) | (with_reducible refine Kd.QO ?_))); (case side6 => exact HC0_2.out); rintro e w63 ⟨rfl, hb⟩; refine ⟨_, rfl, ?_⟩; have n0_ := Qf.mk (QF (g := gb155) (o := .cells #[.slice A0_0 l0_0.length c0_0, .slice A0_1 l0_1.length c0_1, .slice A0_2 l0_2.length c0_2] 37 (0, 0)) (by (with_reducible repeat (first | refine Qd ?_ _ | refine Qg ?_ | refine Qb ?_ _)); exact BK155.out) hb); have n1_ := Qf.mk (QF (g := gb156) (o := .cells #[.int .i64 0, .slice none 0 0] 51 (0, 0)) (by (with_reducible repeat (first | refine Qd ?_ _ | refine Qg ?_ | refine Qb ?_ _)); exact BK156.out) hb); have n2_ := Qf.mk (Qo (by repeat (first | (with_reducible first | exact HB.out | apply Qi | apply Qa | apply Qj | refine Qk ?_ GE155.out | refine Qk ?_ GE156.out) | exact HB.out)) hb); clear BK155; clear BK156; clear HB; have BK155 := n0_; have BK156 := n1_; have HB := n2_; clear n0_ n1_ n2_; (try clear hb); (try clear hb2); (try clear hk); (try clear hi); have hcz64_0 : w63.cell? ⟨gb156, 0, none⟩ = some (.int .i64 0) := (Qe BK156.out 0).trans rfl; have hcz64_1 : w63.cell? ⟨gb156, 1, none⟩ = some (.slice none 0 0) := (Qe BK156.out 1).trans rfl; have hfz64_0 := Qc BK156.out 0; have hfz64_1 := Qc BK156.out 1))
  refine bodyPost_ret (results_cell_row rfl _ _ gb156 51 #[.int .i64 0, .slice none 0 0] (0, 0) _ rfl (by (with_reducible repeat (first | refine Qd ?_ _ | refine Qg ?_ | refine Qb ?_ _)); refine Qy (cs := #[.int .i64 0, .slice none 0 0]) ?_ 1 _ rfl; (with_reducible repeat (first | refine Qd ?_ _ | refine Qg ?_ | refine Qb ?_ _)); refine Qy (cs := #[.int .i64 0, .slice none 0 0]) ?_ 0 _ rfl; (with_reducible repeat (first | refine Qd ?_ _ | refine Qg ?_ | refine Qb ?_ _)); exact BK156.out) Try.underlying51 rfl (by kernel_rfl)) rfl ?_
  exact ⟨_, by first | rfl | (simp [Qw, Qx] <;> rfl) | (simp [*, Qw, Qx] <;> rfl), by first | exact Kd.R_nil _ _ _ _ _ | exact Kd.N_nil _ _ _ _ _ | exact Kd.V_nil _ _ _ _ _ | exact Kd.Q_nil _ _ _ _ _ | exact Kd.S_nil _ _ _ _ _, by repeat (first | (with_reducible first | exact HB.out | apply Qi | apply Qa | apply Qj | refine Qk ?_ GE155.out | refine Qk ?_ GE156.out) | exact HB.out)⟩

end Go.Proofs.Ytbkfjmpnbalkaaa.QTurnsPieces
