-- Written by a program of this session (wip/ext.py) with the kit's print; Lean checks it.
import Derived.Test.YtbkfjmpnbalkaaaQTurnsPiecesx0
import Derived.Test.YtbkfjmpnbalkaaaQTurnsPiecesx8
namespace Go.Proofs.Ytbkfjmpnbalkaaa.QTurnsPieces
open Go.RowKit Go.Proofs.YtbkfjmpnbalkaaaW.PrintWords Go.Proofs.YtbkfjmpnbalkaaaW.PrintLast Go.Proofs.YtbkfjmpnbalkaaaW.PrintMore
attribute [local go_sem] max2_int min2_int max_two min_two max_three min_three max_four min_four   -- for this text's walks alone
set_option linter.unusedVariables false
set_option linter.unusedSimpArgs false

/-! ### Qn: function 20 -/
mutual
def Qn.l0 : Nat → Int → Int → List Int → List (S158) → List (S58) → Option (Int)
 | 0, _, _, _, _, _ => none
 | k + 1, x3, x4, x144000, x144001, x144002 => if x4 < x3 then (if 0 ≤ (wrap64 (x4 - 1)) then (if (wrap64 (x4 - 1)) < (x144000.length : Int) then (if 0 ≤ x4 then (if x4 < (x144000.length : Int) then (if (rd x144000 (wrap64 (x4 - 1))) ≥ (rd x144000 x4) then (some 6) else (Qn.l0 k x3 (wrap64 (x4 + 1)) x144000 x144001 x144002)) else (none)) else (none)) else (none)) else (none)) else (Qn.l1 k x3 0 x144000 x144001 x144002)
def Qn.l1 : Nat → Int → Int → List Int → List (S158) → List (S58) → Option (Int)
 | 0, _, _, _, _, _ => none
 | k + 1, x3, x5, x144000, x144001, x144002 => if x5 < (x144002.length : Int) then (if 0 ≤ x5 then (if ((Qh x144002 x5).f0) < 0 then (Qn.j2 k x3 x5 true x144000 x144001 x144002 ((Qh x144002 x5).f0) ((Qh x144002 x5).f1) ((Qh x144002 x5).f2) ((Qh x144002 x5).f3) ((Qh x144002 x5).f4) ((Qh x144002 x5).f5.f0) ((Qh x144002 x5).f5.f1) ((Qh x144002 x5).f5.f2)) else (if ((Qh x144002 x5).f0) ≥ x3 then (Qn.j2 k x3 x5 true x144000 x144001 x144002 ((Qh x144002 x5).f0) ((Qh x144002 x5).f1) ((Qh x144002 x5).f2) ((Qh x144002 x5).f3) ((Qh x144002 x5).f4) ((Qh x144002 x5).f5.f0) ((Qh x144002 x5).f5.f1) ((Qh x144002 x5).f5.f2)) else (if ((Qh x144002 x5).f1) < 0 then (Qn.j2 k x3 x5 true x144000 x144001 x144002 ((Qh x144002 x5).f0) ((Qh x144002 x5).f1) ((Qh x144002 x5).f2) ((Qh x144002 x5).f3) ((Qh x144002 x5).f4) ((Qh x144002 x5).f5.f0) ((Qh x144002 x5).f5.f1) ((Qh x144002 x5).f5.f2)) else (if ((Qh x144002 x5).f1) ≥ x3 then (Qn.j2 k x3 x5 true x144000 x144001 x144002 ((Qh x144002 x5).f0) ((Qh x144002 x5).f1) ((Qh x144002 x5).f2) ((Qh x144002 x5).f3) ((Qh x144002 x5).f4) ((Qh x144002 x5).f5.f0) ((Qh x144002 x5).f5.f1) ((Qh x144002 x5).f5.f2)) else (if ((Qh x144002 x5).f2) < 1 then (Qn.j2 k x3 x5 true x144000 x144001 x144002 ((Qh x144002 x5).f0) ((Qh x144002 x5).f1) ((Qh x144002 x5).f2) ((Qh x144002 x5).f3) ((Qh x144002 x5).f4) ((Qh x144002 x5).f5.f0) ((Qh x144002 x5).f5.f1) ((Qh x144002 x5).f5.f2)) else (if ((Qh x144002 x5).f2) > 2147483647 then (Qn.j2 k x3 x5 true x144000 x144001 x144002 ((Qh x144002 x5).f0) ((Qh x144002 x5).f1) ((Qh x144002 x5).f2) ((Qh x144002 x5).f3) ((Qh x144002 x5).f4) ((Qh x144002 x5).f5.f0) ((Qh x144002 x5).f5.f1) ((Qh x144002 x5).f5.f2)) else (if ((Qh x144002 x5).f4) < 1 then (Qn.j2 k x3 x5 true x144000 x144001 x144002 ((Qh x144002 x5).f0) ((Qh x144002 x5).f1) ((Qh x144002 x5).f2) ((Qh x144002 x5).f3) ((Qh x144002 x5).f4) ((Qh x144002 x5).f5.f0) ((Qh x144002 x5).f5.f1) ((Qh x144002 x5).f5.f2)) else (if ((Qh x144002 x5).f4) > 6 then (Qn.j2 k x3 x5 true x144000 x144001 x144002 ((Qh x144002 x5).f0) ((Qh x144002 x5).f1) ((Qh x144002 x5).f2) ((Qh x144002 x5).f3) ((Qh x144002 x5).f4) ((Qh x144002 x5).f5.f0) ((Qh x144002 x5).f5.f1) ((Qh x144002 x5).f5.f2)) else (if ((Qh x144002 x5).f3) < 0 then (Qn.j2 k x3 x5 true x144000 x144001 x144002 ((Qh x144002 x5).f0) ((Qh x144002 x5).f1) ((Qh x144002 x5).f2) ((Qh x144002 x5).f3) ((Qh x144002 x5).f4) ((Qh x144002 x5).f5.f0) ((Qh x144002 x5).f5.f1) ((Qh x144002 x5).f5.f2)) else (Qn.j2 k x3 x5 (decide (((Qh x144002 x5).f3) > 67108864)) x144000 x144001 x144002 ((Qh x144002 x5).f0) ((Qh x144002 x5).f1) ((Qh x144002 x5).f2) ((Qh x144002 x5).f3) ((Qh x144002 x5).f4) ((Qh x144002 x5).f5.f0) ((Qh x144002 x5).f5.f1) ((Qh x144002 x5).f5.f2))))))))))) else (none)) else (some 0)
def Qn.j2 : Nat → Int → Int → Bool → List Int → List (S158) → List (S58) → Int → Int → Int → Int → Int → List (S120) → Int → Int → Option (Int)
 | 0, _, _, _, _, _, _, _, _, _, _, _, _, _, _ => none
 | k + 1, x3, x5, x94, x144000, x144001, x144002, x148000, x148001, x148002, x148003, x148004, x148005, x148006, x148007 => if x94 = true then (some 2) else ((Qq.f k x148005 x148006 x148007).bind fun t148 => (if t148 = 0 then (Qn.l1 k x3 (wrap64 (x5 + 1)) x144000 x144001 x144002) else (some t148)))
end
def Qn.f (k : Nat) (l0_0 : List Int) (l0_1 : List (S158)) (l0_2 : List (S58)) : Option (Int) := if (l0_0.length : Int) = (l0_1.length : Int) then (Qn.l0 k (l0_0.length : Int) 1 l0_0 l0_1 l0_2) else (some 12)
theorem Qn.mono_l : ∀ k, (∀ y0 y1 y2 y3 y4, LeO (Qn.l0 k y0 y1 y2 y3 y4) (Qn.l0 (k + 1) y0 y1 y2 y3 y4)) ∧ (∀ y0 y1 y2 y3 y4, LeO (Qn.l1 k y0 y1 y2 y3 y4) (Qn.l1 (k + 1) y0 y1 y2 y3 y4)) ∧ (∀ y0 y1 y2 y3 y4 y5 y6 y7 y8 y9 y10 y11 y12 y13, LeO (Qn.j2 k y0 y1 y2 y3 y4 y5 y6 y7 y8 y9 y10 y11 y12 y13) (Qn.j2 (k + 1) y0 y1 y2 y3 y4 y5 y6 y7 y8 y9 y10 y11 y12 y13))
 | 0 => ⟨fun _ _ _ _ _ r h => by simp [Qn.l0] at h, fun _ _ _ _ _ r h => by simp [Qn.l1] at h, fun _ _ _ _ _ _ _ _ _ _ _ _ _ _ r h => by simp [Qn.j2] at h⟩
 | k + 1 => by
  obtain ⟨ih0, ih1, ih2⟩ := Qn.mono_l k
  refine ⟨?_, ?_, ?_⟩
  ·intro y0 y1 y2 y3 y4
   unfold Qn.l0
   repeat' first
   | (with_reducible exact ih0 _ _ _ _ _)
   | (with_reducible exact ih1 _ _ _ _ _)
   | (with_reducible exact ih2 _ _ _ _ _ _ _ _ _ _ _ _ _ _)
   | (with_reducible exact Qq.mono _ _ _ _)
   | (with_reducible exact LeO.refl _)
   | (with_reducible exact LeO.none _)
   | (with_reducible refine LeO.ite ?_ ?_)
   | (with_reducible refine LeO.bind ?_ (fun _ => ?_))
   | exact ih0 _ _ _ _ _
   | exact ih1 _ _ _ _ _
   | exact ih2 _ _ _ _ _ _ _ _ _ _ _ _ _ _
   | exact Qq.mono _ _ _ _
   | exact LeO.none _
   | refine LeO.ite ?_ ?_
   | refine LeO.bind ?_ (fun _ => ?_)
  ·intro y0 y1 y2 y3 y4
   unfold Qn.l1
   repeat' first
   | (with_reducible exact ih0 _ _ _ _ _)
   | (with_reducible exact ih1 _ _ _ _ _)
   | (with_reducible exact ih2 _ _ _ _ _ _ _ _ _ _ _ _ _ _)
   | (with_reducible exact Qq.mono _ _ _ _)
   | (with_reducible exact LeO.refl _)
   | (with_reducible exact LeO.none _)
   | (with_reducible refine LeO.ite ?_ ?_)
   | (with_reducible refine LeO.bind ?_ (fun _ => ?_))
   | exact ih0 _ _ _ _ _
   | exact ih1 _ _ _ _ _
   | exact ih2 _ _ _ _ _ _ _ _ _ _ _ _ _ _
   | exact Qq.mono _ _ _ _
   | exact LeO.none _
   | refine LeO.ite ?_ ?_
   | refine LeO.bind ?_ (fun _ => ?_)
  ·intro y0 y1 y2 y3 y4 y5 y6 y7 y8 y9 y10 y11 y12 y13
   unfold Qn.j2
   repeat' first
   | (with_reducible exact ih0 _ _ _ _ _)
   | (with_reducible exact ih1 _ _ _ _ _)
   | (with_reducible exact ih2 _ _ _ _ _ _ _ _ _ _ _ _ _ _)
   | (with_reducible exact Qq.mono _ _ _ _)
   | (with_reducible exact LeO.refl _)
   | (with_reducible exact LeO.none _)
   | (with_reducible refine LeO.ite ?_ ?_)
   | (with_reducible refine LeO.bind ?_ (fun _ => ?_))
   | exact ih0 _ _ _ _ _
   | exact ih1 _ _ _ _ _
   | exact ih2 _ _ _ _ _ _ _ _ _ _ _ _ _ _
   | exact Qq.mono _ _ _ _
   | exact LeO.none _
   | refine LeO.ite ?_ ?_
   | refine LeO.bind ?_ (fun _ => ?_)
theorem Qn.mono : ∀ a0 a1 a2 k, LeO (Qn.f k a0 a1 a2) (Qn.f (k + 1) a0 a1 a2) := by
 intro a0 a1 a2 k
 obtain ⟨ih0, ih1, ih2⟩ := Qn.mono_l k
 unfold Qn.f
 repeat' first
   | (with_reducible exact ih0 _ _ _ _ _)
   | (with_reducible exact ih1 _ _ _ _ _)
   | (with_reducible exact ih2 _ _ _ _ _ _ _ _ _ _ _ _ _ _)
   | (with_reducible exact Qq.mono _ _ _ _)
   | (with_reducible exact LeO.refl _)
   | (with_reducible exact LeO.none _)
   | (with_reducible refine LeO.ite ?_ ?_)
   | (with_reducible refine LeO.bind ?_ (fun _ => ?_))
   | exact ih0 _ _ _ _ _
   | exact ih1 _ _ _ _ _
   | exact ih2 _ _ _ _ _ _ _ _ _ _ _ _ _ _
   | exact Qq.mono _ _ _ _
   | exact LeO.none _
   | refine LeO.ite ?_ ?_
   | refine LeO.bind ?_ (fun _ => ?_)
set_option maxHeartbeats 8000000 in
set_option maxRecDepth 100000 in
theorem Qn.calls (k : Nat) (A0_0 : Option Addr) (c0_0 : Nat) (l0_0 : List Int) (A0_1 : Option Addr) (c0_1 : Nat) (l0_1 : List (S158)) (A0_2 : Option Addr) (c0_2 : Nat) (l0_2 : List (S58)) (r : Int) (w : World) (hr0_0 : Kd.C (Kd.int .i64) w A0_0 l0_0.length l0_0) (hc0_0 : l0_0.length ≤ c0_0) (hr0_1 : Kd.C k158 w A0_1 l0_1.length l0_1) (hc0_1 : l0_1.length ≤ c0_1) (hr0_2 : Kd.C k58 w A0_2 l0_2.length l0_2) (hc0_2 : l0_2.length ≤ c0_2) (h : Qn.f k l0_0 l0_1 l0_2 = some r) :
  Calls Try.prog 20 #[.agg #[.slice A0_0 l0_0.length c0_0, .slice A0_1 l0_1.length c0_1, .slice A0_2 l0_2.length c0_2]] w fun e w' => e = .returned (.int .i64 r) ∧ Below w.heap.size w w' := by
 have hu37 := Try.underlying37
 have hu58 := Try.underlying58
 have hu56 := Try.underlying56
 have HR0_0 := Qf.mk hr0_0
 have HC0_0 := Qf.mk hc0_0
 clear hr0_0 hc0_0
 have HR0_1 := Qf.mk hr0_1
 have HC0_1 := Qf.mk hc0_1
 clear hr0_1 hc0_1
 have HR0_2 := Qf.mk hr0_2
 have HC0_2 := Qf.mk hc0_2
 clear hr0_2 hc0_2
 have HB := Qf.mk (Below.refl w.heap.size w)
 have H : (if (l0_0.length : Int) = (l0_1.length : Int) then (Qn.l0 k (l0_0.length : Int) 1 l0_0 l0_1 l0_2) else (some 12)) = some r := h
 clear h
 by_cases c2 : (l0_0.length : Int) = (l0_1.length : Int)
 ·rw [if_pos c2] at H
  have c2b0 : ((l0_0.length : Int) == (l0_1.length : Int)) = true := beq_iff_eq.mpr c2
  have c2b1 : ((l0_0.length : Int) != (l0_1.length : Int)) = false := bne_eq_false_iff_eq.mpr c2
  have c2b2 : (l0_0.length == l0_1.length) = true := by first | simpa using c2 | (simp at c2 ⊢; omega)
  clear c2
  have H' := Qf.mk H
  clear H
  go_enter Try.func20, Try.ntmps20
  go_wp2_with (first | ((with_reducible refine QM (N := 1) rfl ?_); refine QI ?hg (N := 1) ?hd (cs := #[.slice A0_0 l0_0.length c0_0, .slice A0_1 l0_1.length c0_1, .slice A0_2 l0_2.length c0_2]) (t := 37) ?hr ?_; (case hd => rfl); (case hg => rfl); (case hr => first | (go_simp; done) | (go_simp; rfl)); intro gb143 hg w3 hbox hb; have n0_ := Qf.mk (Qo (by repeat (first | (with_reducible first | exact HB.out | apply Qi | apply Qa | apply Qj) | exact HB.out)) hb); have n1_ := Qf.mk (hbox); have n2_ := Qf.mk ((by rw [hg]; exact (Qp (by repeat (first | (with_reducible first | exact HB.out | apply Qi | apply Qa | apply Qj) | exact HB.out))) : w.heap.size ≤ gb143)); have n3_ := Qf.mk ((by rw [hg]; exact (Qp (by repeat (first | (with_reducible first | exact HB.out | apply Qi | apply Qa | apply Qj) | exact HB.out))) : w.heap.size ≤ gb143)); clear HB; have HB := n0_; have BK143 := n1_; have GW143 := n2_; have GE143 := n3_; clear n0_ n1_ n2_ n3_; clear hb hbox hg; have hcz4_0 : w3.cell? ⟨gb143, 0, none⟩ = some (.slice A0_0 l0_0.length c0_0) := (Qe BK143.out 0).trans rfl; have hcz4_1 : w3.cell? ⟨gb143, 1, none⟩ = some (.slice A0_1 l0_1.length c0_1) := (Qe BK143.out 1).trans rfl; have hcz4_2 : w3.cell? ⟨gb143, 2, none⟩ = some (.slice A0_2 l0_2.length c0_2) := (Qe BK143.out 2).trans rfl; have hfz4_0 := Qc BK143.out 0; have hfz4_1 := Qc BK143.out 1; have hfz4_2 := Qc BK143.out 2))
  repeat (go_quiet (first | ((with_reducible refine QM (N := 1) rfl ?_); refine QI ?hg (N := 1) ?hd (cs := #[.slice A0_0 l0_0.length c0_0, .slice A0_1 l0_1.length c0_1, .slice A0_2 l0_2.length c0_2]) (t := 37) ?hr ?_; (case hd => rfl); (case hg => rfl); (case hr => first | (go_simp; done) | (go_simp; rfl)); intro gb143 hg w3 hbox hb; have n0_ := Qf.mk (Qo (by repeat (first | (with_reducible first | exact HB.out | apply Qi | apply Qa | apply Qj) | exact HB.out)) hb); have n1_ := Qf.mk (hbox); have n2_ := Qf.mk ((by rw [hg]; exact (Qp (by repeat (first | (with_reducible first | exact HB.out | apply Qi | apply Qa | apply Qj) | exact HB.out))) : w.heap.size ≤ gb143)); have n3_ := Qf.mk ((by rw [hg]; exact (Qp (by repeat (first | (with_reducible first | exact HB.out | apply Qi | apply Qa | apply Qj) | exact HB.out))) : w.heap.size ≤ gb143)); clear HB; have HB := n0_; have BK143 := n1_; have GW143 := n2_; have GE143 := n3_; clear n0_ n1_ n2_ n3_; clear hb hbox hg; have hcz4_0 : w3.cell? ⟨gb143, 0, none⟩ = some (.slice A0_0 l0_0.length c0_0) := (Qe BK143.out 0).trans rfl; have hcz4_1 : w3.cell? ⟨gb143, 1, none⟩ = some (.slice A0_1 l0_1.length c0_1) := (Qe BK143.out 1).trans rfl; have hcz4_2 : w3.cell? ⟨gb143, 2, none⟩ = some (.slice A0_2 l0_2.length c0_2) := (Qe BK143.out 2).trans rfl; have hfz4_0 := Qc BK143.out 0; have hfz4_1 := Qc BK143.out 1; have hfz4_2 := Qc BK143.out 2)); try go_wp2_with (first | ((with_reducible refine QM (N := 1) rfl ?_); refine QI ?hg (N := 1) ?hd (cs := #[.slice A0_0 l0_0.length c0_0, .slice A0_1 l0_1.length c0_1, .slice A0_2 l0_2.length c0_2]) (t := 37) ?hr ?_; (case hd => rfl); (case hg => rfl); (case hr => first | (go_simp; done) | (go_simp; rfl)); intro gb143 hg w3 hbox hb; have n0_ := Qf.mk (Qo (by repeat (first | (with_reducible first | exact HB.out | apply Qi | apply Qa | apply Qj) | exact HB.out)) hb); have n1_ := Qf.mk (hbox); have n2_ := Qf.mk ((by rw [hg]; exact (Qp (by repeat (first | (with_reducible first | exact HB.out | apply Qi | apply Qa | apply Qj) | exact HB.out))) : w.heap.size ≤ gb143)); have n3_ := Qf.mk ((by rw [hg]; exact (Qp (by repeat (first | (with_reducible first | exact HB.out | apply Qi | apply Qa | apply Qj) | exact HB.out))) : w.heap.size ≤ gb143)); clear HB; have HB := n0_; have BK143 := n1_; have GW143 := n2_; have GE143 := n3_; clear n0_ n1_ n2_ n3_; clear hb hbox hg; have hcz4_0 : w3.cell? ⟨gb143, 0, none⟩ = some (.slice A0_0 l0_0.length c0_0) := (Qe BK143.out 0).trans rfl; have hcz4_1 : w3.cell? ⟨gb143, 1, none⟩ = some (.slice A0_1 l0_1.length c0_1) := (Qe BK143.out 1).trans rfl; have hcz4_2 : w3.cell? ⟨gb143, 2, none⟩ = some (.slice A0_2 l0_2.length c0_2) := (Qe BK143.out 2).trans rfl; have hfz4_0 := Qc BK143.out 0; have hfz4_1 := Qc BK143.out 1; have hfz4_2 := Qc BK143.out 2)))
  go_loopg [4] k (fun kq v4 w' => ∃ (x4_1 : Int), v4 = .int .i64 x4_1 ∧ Qf (Qn.l0 kq (l0_0.length : Int) x4_1 l0_0 l0_1 l0_2 = some r) ∧ Qf (kq ≤ k) ∧ Qf (w'.heap[gb143]? = some (.cells #[(.slice A0_0 l0_0.length c0_0), (.slice A0_1 l0_1.length c0_1), (.slice A0_2 l0_2.length c0_2)] 37 (0, 0))) ∧ Qf (Below w.heap.size w w'))
  case atStart => exact ⟨(1), (by first | rfl | (simp; done) | (simp [*]; done)), H', ⟨Nat.le_refl _⟩, ⟨by (with_reducible repeat (first | refine Qd ?_ _ | refine Qg ?_ | refine Qb ?_ _)); exact BK143.out⟩, ⟨by repeat (first | (with_reducible first | exact HB.out | apply Qi | apply Qa | apply Qj | refine Qk ?_ GE143.out) | exact HB.out)⟩⟩
  case round =>
   clear H'
   try clear c2
   try clear c2b0
   try clear c2b1
   try clear c2b2
   try clear p2
   try clear hcz4_0
   try clear hcz4_1
   try clear hcz4_2
   try clear hfz4_0
   try clear hfz4_1
   try clear hfz4_2
   obtain ⟨x4_1, rfl, HA, HK1, BK143, HB⟩ := hrel
   cases gk with
   | zero => exact absurd HA.out (by simp [Qn.l0])
   | succ k1 =>
    have H := HA.out
    clear HA
    simp only [Qn.l0] at H
    by_cases c5 : x4_1 < (l0_0.length : Int)
    ·rw [if_pos c5] at H
     have c5b0 : decide (x4_1 < (l0_0.length : Int)) = true := decide_eq_true c5
     clear c5
     obtain ⟨ji6, hji6⟩ : ∃ j_ : Int, (wrap64 (x4_1 - 1)) = j_ := ⟨_, rfl⟩
     replace H : (if 0 ≤ (ji6) then (if (ji6) < (l0_0.length : Int) then (if 0 ≤ x4_1 then (if x4_1 < (l0_0.length : Int) then (if (rd l0_0 (ji6)) ≥ (rd l0_0 x4_1) then (some 6) else (Qn.l0 k1 (l0_0.length : Int) (wrap64 (x4_1 + 1)) l0_0 l0_1 l0_2)) else (none)) else (none)) else (none)) else (none)) = some r := by first | (rw [hji6] at H; exact H) | (simp only [hji6] at H ⊢; exact H)
     have hji6w : (IntKind.i64.wrap (x4_1 - 1)) = ji6 := (Qt _).trans hji6
     by_cases c7 : 0 ≤ (ji6)
     ·rw [if_pos c7] at H
      have c7b0 : decide (0 ≤ (ji6)) = true := decide_eq_true c7
      clear c7
      by_cases c8 : (ji6) < (l0_0.length : Int)
      ·rw [if_pos c8] at H
       have c8b0 : decide ((ji6) < (l0_0.length : Int)) = true := decide_eq_true c8
       clear c8
       by_cases c9 : 0 ≤ x4_1
       ·rw [if_pos c9] at H
        have c9b0 : decide (0 ≤ x4_1) = true := decide_eq_true c9
        clear c9
        by_cases c10 : x4_1 < (l0_0.length : Int)
        ·rw [if_pos c10] at H
         have c10b0 : decide (x4_1 < (l0_0.length : Int)) = true := decide_eq_true c10
         clear c10
         by_cases c11 : (rd l0_0 (ji6)) ≥ (rd l0_0 x4_1)
         ·rw [if_pos c11] at H
          have c11b0 : decide ((rd l0_0 x4_1) ≤ (rd l0_0 (ji6))) = true := decide_eq_true c11
          clear c11
          obtain rfl := Option.some.inj H
          have hcz12_0 : wr.cell? ⟨gb143, 0, none⟩ = some (.slice A0_0 l0_0.length c0_0) := (Qe BK143.out 0).trans rfl
          have hcz12_1 : wr.cell? ⟨gb143, 1, none⟩ = some (.slice A0_1 l0_1.length c0_1) := (Qe BK143.out 1).trans rfl
          have hcz12_2 : wr.cell? ⟨gb143, 2, none⟩ = some (.slice A0_2 l0_2.length c0_2) := (Qe BK143.out 2).trans rfl
          have hfz12_0 := Qc BK143.out 0
          have hfz12_1 := Qc BK143.out 1
          have hfz12_2 := Qc BK143.out 2
          have p144 : 0 ≤ ((ji6) : Int) := of_decide_eq_true (by first | (with_reducible assumption) | assumption)
          have q144 : (ji6) < (l0_0.length : Int) := of_decide_eq_true (by first | (with_reducible assumption) | assumption)
          obtain ⟨ad144, e144, hx144_0⟩ := Kd.at_int HR0_0.out (ji6) p144 q144
          cases e144
          replace hx144_0 := (HB.out.cell (World.block_lt_of_cell? w _ hx144_0)).trans hx144_0
          replace p144 := eq_true p144
          replace q144 := eq_true q144
          have p145 : 0 ≤ (x4_1 : Int) := of_decide_eq_true (by first | (with_reducible assumption) | assumption)
          have q145 : x4_1 < (l0_0.length : Int) := of_decide_eq_true (by first | (with_reducible assumption) | assumption)
          obtain ⟨ad145, e145, hx145_0⟩ := Kd.at_int HR0_0.out x4_1 p145 q145
          obtain rfl : ad144 = ad145 := (by injection e145)
          replace hx145_0 := (HB.out.cell (World.block_lt_of_cell? w _ hx145_0)).trans hx145_0
          replace p145 := eq_true p145
          replace q145 := eq_true q145
          go_wp2
          repeat (go_quiet (fail); try go_wp2)
          go_ret
          exact ⟨by first | rfl | (simp [Qw, Qx] <;> rfl) | (simp only [← hji6]; first | rfl | (simp [Qw, Qx] <;> rfl)) | (simp [*, Qw, Qx] <;> rfl), by repeat (first | (with_reducible first | exact HB.out | apply Qi | apply Qa | apply Qj | refine Qk ?_ GE143.out) | exact HB.out)⟩
         ·rw [if_neg c11] at H
          have c11b0 : decide ((rd l0_0 x4_1) ≤ (rd l0_0 (ji6))) = false := decide_eq_false c11
          clear c11
          have H' := Qf.mk H
          clear H
          have hcz13_0 : wr.cell? ⟨gb143, 0, none⟩ = some (.slice A0_0 l0_0.length c0_0) := (Qe BK143.out 0).trans rfl
          have hcz13_1 : wr.cell? ⟨gb143, 1, none⟩ = some (.slice A0_1 l0_1.length c0_1) := (Qe BK143.out 1).trans rfl
          have hcz13_2 : wr.cell? ⟨gb143, 2, none⟩ = some (.slice A0_2 l0_2.length c0_2) := (Qe BK143.out 2).trans rfl
          have hfz13_0 := Qc BK143.out 0
          have hfz13_1 := Qc BK143.out 1
          have hfz13_2 := Qc BK143.out 2
          have p144 : 0 ≤ ((ji6) : Int) := of_decide_eq_true (by first | (with_reducible assumption) | assumption)
          have q144 : (ji6) < (l0_0.length : Int) := of_decide_eq_true (by first | (with_reducible assumption) | assumption)
          obtain ⟨ad144, e144, hx144_0⟩ := Kd.at_int HR0_0.out (ji6) p144 q144
          cases e144
          replace hx144_0 := (HB.out.cell (World.block_lt_of_cell? w _ hx144_0)).trans hx144_0
          replace p144 := eq_true p144
          replace q144 := eq_true q144
          have p145 : 0 ≤ (x4_1 : Int) := of_decide_eq_true (by first | (with_reducible assumption) | assumption)
          have q145 : x4_1 < (l0_0.length : Int) := of_decide_eq_true (by first | (with_reducible assumption) | assumption)
          obtain ⟨ad145, e145, hx145_0⟩ := Kd.at_int HR0_0.out x4_1 p145 q145
          obtain rfl : ad144 = ad145 := (by injection e145)
          replace hx145_0 := (HB.out.cell (World.block_lt_of_cell? w _ hx145_0)).trans hx145_0
          replace p145 := eq_true p145
          replace q145 := eq_true q145
          go_wp2
          repeat (go_quiet (fail); try go_wp2)
          go_roundg k1
          case measure => have := HK1.out; omega
          case rel => exact ⟨(wrap64 (x4_1 + 1)), (by first | rfl | (simp; done) | (simp [*]; done)), H', ⟨by have := HK1.out; omega⟩, ⟨by (with_reducible repeat (first | refine Qd ?_ _ | refine Qg ?_ | refine Qb ?_ _)); exact BK143.out⟩, ⟨by repeat (first | (with_reducible first | exact HB.out | apply Qi | apply Qa | apply Qj | refine Qk ?_ GE143.out) | exact HB.out)⟩⟩
        ·rw [if_neg c10] at H
         exact absurd H (by simp)
       ·rw [if_neg c9] at H
        exact absurd H (by simp)
      ·rw [if_neg c8] at H
       exact absurd H (by simp)
     ·rw [if_neg c7] at H
      exact absurd H (by simp)
    ·rw [if_neg c5] at H
     have c5b0 : decide (x4_1 < (l0_0.length : Int)) = false := decide_eq_false c5
     clear c5
     have H' := Qf.mk H
     clear H
     go_wp2
     repeat (go_quiet (fail); try go_wp2)
     go_loopg [5] k1 (fun kq v5 w' => ∃ (x5_2 : Int), v5 = .int .i64 x5_2 ∧ Qf (Qn.l1 kq (l0_0.length : Int) x5_2 l0_0 l0_1 l0_2 = some r) ∧ Qf (kq ≤ k1) ∧ Qf (w'.heap[gb143]? = some (.cells #[(.slice A0_0 l0_0.length c0_0), (.slice A0_1 l0_1.length c0_1), (.slice A0_2 l0_2.length c0_2)] 37 (0, 0))) ∧ Qf (Below w.heap.size w w'))
     case atStart => exact ⟨(0), (by first | rfl | (simp; done) | (simp [*]; done)), H', ⟨Nat.le_refl _⟩, ⟨by (with_reducible repeat (first | refine Qd ?_ _ | refine Qg ?_ | refine Qb ?_ _)); exact BK143.out⟩, ⟨by repeat (first | (with_reducible first | exact HB.out | apply Qi | apply Qa | apply Qj | refine Qk ?_ GE143.out) | exact HB.out)⟩⟩
     case round =>
      clear H'
      try clear c1
      try clear p1
      try clear q1
      try clear hx1
      try clear c2
      try clear c2b0
      try clear c2b1
      try clear c2b2
      try clear p2
      try clear c5
      try clear c5b0
      try clear p6
      try clear c7
      try clear c7b0
      try clear c8
      try clear c8b0
      try clear c9
      try clear c9b0
      try clear c10
      try clear c10b0
      try clear c11
      try clear c11b0
      try clear hcz12_0
      try clear hcz12_1
      try clear hcz12_2
      try clear hcz13_0
      try clear hcz13_1
      try clear hcz13_2
      try clear hcz4_0
      try clear hcz4_1
      try clear hcz4_2
      try clear hfz12_0
      try clear hfz12_1
      try clear hfz12_2
      try clear hfz13_0
      try clear hfz13_1
      try clear hfz13_2
      try clear hfz4_0
      try clear hfz4_1
      try clear hfz4_2
      try clear hx144_0
      try clear hx145_0
      try clear p144
      try clear p145
      try clear p2
      try clear q144
      try clear q145
      obtain ⟨x5_2, rfl, HA, HK2, BK143, HB⟩ := hrel
      cases gk with
      | zero => exact absurd HA.out (by simp [Qn.l1])
      | succ k2 =>
       have H := HA.out
       clear HA
       simp only [Qn.l1] at H
       by_cases c14 : x5_2 < (l0_2.length : Int)
       ·rw [if_pos c14] at H
        have c14b0 : decide (x5_2 < (l0_2.length : Int)) = true := decide_eq_true c14
        clear c14
        by_cases c15 : 0 ≤ x5_2
        ·rw [if_pos c15] at H
         have c15b0 : decide (0 ≤ x5_2) = true := decide_eq_true c15
         clear c15
         have HC16 := Qf.mk H
         clear H
         have hcz17_0 : wr.cell? ⟨gb143, 0, none⟩ = some (.slice A0_0 l0_0.length c0_0) := (Qe BK143.out 0).trans rfl
         have hcz17_1 : wr.cell? ⟨gb143, 1, none⟩ = some (.slice A0_1 l0_1.length c0_1) := (Qe BK143.out 1).trans rfl
         have hcz17_2 : wr.cell? ⟨gb143, 2, none⟩ = some (.slice A0_2 l0_2.length c0_2) := (Qe BK143.out 2).trans rfl
         have hfz17_0 := Qc BK143.out 0
         have hfz17_1 := Qc BK143.out 1
         have hfz17_2 := Qc BK143.out 2
         have p146 : 0 ≤ (x5_2 : Int) := of_decide_eq_true (by first | (with_reducible assumption) | assumption)
         have q146 : x5_2 < (l0_2.length : Int) := of_decide_eq_true (by first | (with_reducible assumption) | assumption)
         obtain ⟨ad146, A146_5, c146_5, e146, hx146_0, hx146_1, hx146_2, hx146_3, hx146_4, hx146_5, hx146_6, hx146_7, hl146_5, hi146_5⟩ := at_T58 HR0_2.out x5_2 p146 q146
         cases e146
         replace hx146_0 := (HB.out.cell (World.block_lt_of_cell? w _ hx146_0)).trans hx146_0
         replace hx146_1 := (HB.out.cell (World.block_lt_of_cell? w _ hx146_1)).trans hx146_1
         replace hx146_2 := (HB.out.cell (World.block_lt_of_cell? w _ hx146_2)).trans hx146_2
         replace hx146_3 := (HB.out.cell (World.block_lt_of_cell? w _ hx146_3)).trans hx146_3
         replace hx146_4 := (HB.out.cell (World.block_lt_of_cell? w _ hx146_4)).trans hx146_4
         replace hx146_5 := (HB.out.cell (World.block_lt_of_cell? w _ hx146_5)).trans hx146_5
         replace hx146_6 := (HB.out.cell (World.block_lt_of_cell? w _ hx146_6)).trans hx146_6
         replace hx146_7 := (HB.out.cell (World.block_lt_of_cell? w _ hx146_7)).trans hx146_7
         have HR146_5 := Qf.mk hi146_5
         have HC146_5 := Qf.mk hl146_5
         clear hi146_5 hl146_5
         replace p146 := eq_true p146
         replace q146 := eq_true q146
         go_upto_region 13 with (first | ((with_reducible refine QM (N := 6) rfl ?_); refine QI ?hg (N := 6) ?hd (cs := #[.int .i64 0, .int .i64 0, .int .i64 0, .int .i64 0, .int .i64 0, .slice none 0 0, .int .i64 0, .int .i64 0]) (t := 58) ?hr ?_; (case hd => rfl); (case hg => rfl); (case hr => first | (go_simp; done) | (go_simp; rfl)); intro gb147 hg w18 hbox hb; have n0_ := Qf.mk (QF (g := gb143) (o := .cells #[.slice A0_0 l0_0.length c0_0, .slice A0_1 l0_1.length c0_1, .slice (some ad146) l0_2.length c0_2] 37 (0, 0)) (by (with_reducible repeat (first | refine Qd ?_ _ | refine Qg ?_ | refine Qb ?_ _)); exact BK143.out) hb); have n1_ := Qf.mk (Qo (by repeat (first | (with_reducible first | exact HB.out | apply Qi | apply Qa | apply Qj | refine Qk ?_ GE143.out) | exact HB.out)) hb); have n2_ := Qf.mk (hbox); have n3_ := Qf.mk ((by rw [hg]; exact (Qp (by repeat (first | (with_reducible first | exact HB.out | apply Qi | apply Qa | apply Qj | refine Qk ?_ GE143.out) | exact HB.out))) : w.heap.size ≤ gb147)); have n4_ := Qf.mk ((by rw [hg]; exact (Qp (by repeat (first | (with_reducible first | exact HB.out | apply Qi | apply Qa | apply Qj | refine Qk ?_ GE143.out) | exact HB.out))) : w.heap.size ≤ gb147)); have n5_ := Qf.mk ((by rw [hg]; exact Nat.ne_of_lt (QR (g := gb143) (o := .cells #[.slice A0_0 l0_0.length c0_0, .slice A0_1 l0_1.length c0_1, .slice (some ad146) l0_2.length c0_2] 37 (0, 0)) (by (with_reducible repeat (first | refine Qd ?_ _ | refine Qg ?_ | refine Qb ?_ _)); exact BK143.out)) : gb143 ≠ gb147)); have n6_ := Qf.mk ((by rw [hg]; exact Nat.ne_of_gt (QR (g := gb143) (o := .cells #[.slice A0_0 l0_0.length c0_0, .slice A0_1 l0_1.length c0_1, .slice (some ad146) l0_2.length c0_2] 37 (0, 0)) (by (with_reducible repeat (first | refine Qd ?_ _ | refine Qg ?_ | refine Qb ?_ _)); exact BK143.out)) : gb147 ≠ gb143)); clear BK143; clear HB; have BK143 := n0_; have HB := n1_; have BK147 := n2_; have GW147 := n3_; have GE147 := n4_; have NB143_147 := n5_; have NB147_143 := n6_; clear n0_ n1_ n2_ n3_ n4_ n5_ n6_; clear hb hbox hg; have hnb19 := NB147_143.out; have hnc19 := NB143_147.out; have hcz20_0 : w18.cell? ⟨gb147, 0, none⟩ = some (.int .i64 0) := (Qe BK147.out 0).trans rfl; have hcz20_1 : w18.cell? ⟨gb147, 1, none⟩ = some (.int .i64 0) := (Qe BK147.out 1).trans rfl; have hcz20_2 : w18.cell? ⟨gb147, 2, none⟩ = some (.int .i64 0) := (Qe BK147.out 2).trans rfl; have hcz20_3 : w18.cell? ⟨gb147, 3, none⟩ = some (.int .i64 0) := (Qe BK147.out 3).trans rfl; have hcz20_4 : w18.cell? ⟨gb147, 4, none⟩ = some (.int .i64 0) := (Qe BK147.out 4).trans rfl; have hcz20_5 : w18.cell? ⟨gb147, 5, none⟩ = some (.slice none 0 0) := (Qe BK147.out 5).trans rfl; have hcz20_6 : w18.cell? ⟨gb147, 6, none⟩ = some (.int .i64 0) := (Qe BK147.out 6).trans rfl; have hcz20_7 : w18.cell? ⟨gb147, 7, none⟩ = some (.int .i64 0) := (Qe BK147.out 7).trans rfl; have hfz20_0 := Qc BK147.out 0; have hfz20_1 := Qc BK147.out 1; have hfz20_2 := Qc BK147.out 2; have hfz20_3 := Qc BK147.out 3; have hfz20_4 := Qc BK147.out 4; have hfz20_5 := Qc BK147.out 5; have hfz20_6 := Qc BK147.out 6; have hfz20_7 := Qc BK147.out 7))
         repeat (go_quiet (first | ((with_reducible refine QM (N := 6) rfl ?_); refine QI ?hg (N := 6) ?hd (cs := #[.int .i64 0, .int .i64 0, .int .i64 0, .int .i64 0, .int .i64 0, .slice none 0 0, .int .i64 0, .int .i64 0]) (t := 58) ?hr ?_; (case hd => rfl); (case hg => rfl); (case hr => first | (go_simp; done) | (go_simp; rfl)); intro gb147 hg w18 hbox hb; have n0_ := Qf.mk (QF (g := gb143) (o := .cells #[.slice A0_0 l0_0.length c0_0, .slice A0_1 l0_1.length c0_1, .slice (some ad146) l0_2.length c0_2] 37 (0, 0)) (by (with_reducible repeat (first | refine Qd ?_ _ | refine Qg ?_ | refine Qb ?_ _)); exact BK143.out) hb); have n1_ := Qf.mk (Qo (by repeat (first | (with_reducible first | exact HB.out | apply Qi | apply Qa | apply Qj | refine Qk ?_ GE143.out) | exact HB.out)) hb); have n2_ := Qf.mk (hbox); have n3_ := Qf.mk ((by rw [hg]; exact (Qp (by repeat (first | (with_reducible first | exact HB.out | apply Qi | apply Qa | apply Qj | refine Qk ?_ GE143.out) | exact HB.out))) : w.heap.size ≤ gb147)); have n4_ := Qf.mk ((by rw [hg]; exact (Qp (by repeat (first | (with_reducible first | exact HB.out | apply Qi | apply Qa | apply Qj | refine Qk ?_ GE143.out) | exact HB.out))) : w.heap.size ≤ gb147)); have n5_ := Qf.mk ((by rw [hg]; exact Nat.ne_of_lt (QR (g := gb143) (o := .cells #[.slice A0_0 l0_0.length c0_0, .slice A0_1 l0_1.length c0_1, .slice (some ad146) l0_2.length c0_2] 37 (0, 0)) (by (with_reducible repeat (first | refine Qd ?_ _ | refine Qg ?_ | refine Qb ?_ _)); exact BK143.out)) : gb143 ≠ gb147)); have n6_ := Qf.mk ((by rw [hg]; exact Nat.ne_of_gt (QR (g := gb143) (o := .cells #[.slice A0_0 l0_0.length c0_0, .slice A0_1 l0_1.length c0_1, .slice (some ad146) l0_2.length c0_2] 37 (0, 0)) (by (with_reducible repeat (first | refine Qd ?_ _ | refine Qg ?_ | refine Qb ?_ _)); exact BK143.out)) : gb147 ≠ gb143)); clear BK143; clear HB; have BK143 := n0_; have HB := n1_; have BK147 := n2_; have GW147 := n3_; have GE147 := n4_; have NB143_147 := n5_; have NB147_143 := n6_; clear n0_ n1_ n2_ n3_ n4_ n5_ n6_; clear hb hbox hg; have hnb19 := NB147_143.out; have hnc19 := NB143_147.out; have hcz20_0 : w18.cell? ⟨gb147, 0, none⟩ = some (.int .i64 0) := (Qe BK147.out 0).trans rfl; have hcz20_1 : w18.cell? ⟨gb147, 1, none⟩ = some (.int .i64 0) := (Qe BK147.out 1).trans rfl; have hcz20_2 : w18.cell? ⟨gb147, 2, none⟩ = some (.int .i64 0) := (Qe BK147.out 2).trans rfl; have hcz20_3 : w18.cell? ⟨gb147, 3, none⟩ = some (.int .i64 0) := (Qe BK147.out 3).trans rfl; have hcz20_4 : w18.cell? ⟨gb147, 4, none⟩ = some (.int .i64 0) := (Qe BK147.out 4).trans rfl; have hcz20_5 : w18.cell? ⟨gb147, 5, none⟩ = some (.slice none 0 0) := (Qe BK147.out 5).trans rfl; have hcz20_6 : w18.cell? ⟨gb147, 6, none⟩ = some (.int .i64 0) := (Qe BK147.out 6).trans rfl; have hcz20_7 : w18.cell? ⟨gb147, 7, none⟩ = some (.int .i64 0) := (Qe BK147.out 7).trans rfl; have hfz20_0 := Qc BK147.out 0; have hfz20_1 := Qc BK147.out 1; have hfz20_2 := Qc BK147.out 2; have hfz20_3 := Qc BK147.out 3; have hfz20_4 := Qc BK147.out 4; have hfz20_5 := Qc BK147.out 5; have hfz20_6 := Qc BK147.out 6; have hfz20_7 := Qc BK147.out 7)); go_upto_region 13 with (first | ((with_reducible refine QM (N := 6) rfl ?_); refine QI ?hg (N := 6) ?hd (cs := #[.int .i64 0, .int .i64 0, .int .i64 0, .int .i64 0, .int .i64 0, .slice none 0 0, .int .i64 0, .int .i64 0]) (t := 58) ?hr ?_; (case hd => rfl); (case hg => rfl); (case hr => first | (go_simp; done) | (go_simp; rfl)); intro gb147 hg w18 hbox hb; have n0_ := Qf.mk (QF (g := gb143) (o := .cells #[.slice A0_0 l0_0.length c0_0, .slice A0_1 l0_1.length c0_1, .slice (some ad146) l0_2.length c0_2] 37 (0, 0)) (by (with_reducible repeat (first | refine Qd ?_ _ | refine Qg ?_ | refine Qb ?_ _)); exact BK143.out) hb); have n1_ := Qf.mk (Qo (by repeat (first | (with_reducible first | exact HB.out | apply Qi | apply Qa | apply Qj | refine Qk ?_ GE143.out) | exact HB.out)) hb); have n2_ := Qf.mk (hbox); have n3_ := Qf.mk ((by rw [hg]; exact (Qp (by repeat (first | (with_reducible first | exact HB.out | apply Qi | apply Qa | apply Qj | refine Qk ?_ GE143.out) | exact HB.out))) : w.heap.size ≤ gb147)); have n4_ := Qf.mk ((by rw [hg]; exact (Qp (by repeat (first | (with_reducible first | exact HB.out | apply Qi | apply Qa | apply Qj | refine Qk ?_ GE143.out) | exact HB.out))) : w.heap.size ≤ gb147)); have n5_ := Qf.mk ((by rw [hg]; exact Nat.ne_of_lt (QR (g := gb143) (o := .cells #[.slice A0_0 l0_0.length c0_0, .slice A0_1 l0_1.length c0_1, .slice (some ad146) l0_2.length c0_2] 37 (0, 0)) (by (with_reducible repeat (first | refine Qd ?_ _ | refine Qg ?_ | refine Qb ?_ _)); exact BK143.out)) : gb143 ≠ gb147)); have n6_ := Qf.mk ((by rw [hg]; exact Nat.ne_of_gt (QR (g := gb143) (o := .cells #[.slice A0_0 l0_0.length c0_0, .slice A0_1 l0_1.length c0_1, .slice (some ad146) l0_2.length c0_2] 37 (0, 0)) (by (with_reducible repeat (first | refine Qd ?_ _ | refine Qg ?_ | refine Qb ?_ _)); exact BK143.out)) : gb147 ≠ gb143)); clear BK143; clear HB; have BK143 := n0_; have HB := n1_; have BK147 := n2_; have GW147 := n3_; have GE147 := n4_; have NB143_147 := n5_; have NB147_143 := n6_; clear n0_ n1_ n2_ n3_ n4_ n5_ n6_; clear hb hbox hg; have hnb19 := NB147_143.out; have hnc19 := NB143_147.out; have hcz20_0 : w18.cell? ⟨gb147, 0, none⟩ = some (.int .i64 0) := (Qe BK147.out 0).trans rfl; have hcz20_1 : w18.cell? ⟨gb147, 1, none⟩ = some (.int .i64 0) := (Qe BK147.out 1).trans rfl; have hcz20_2 : w18.cell? ⟨gb147, 2, none⟩ = some (.int .i64 0) := (Qe BK147.out 2).trans rfl; have hcz20_3 : w18.cell? ⟨gb147, 3, none⟩ = some (.int .i64 0) := (Qe BK147.out 3).trans rfl; have hcz20_4 : w18.cell? ⟨gb147, 4, none⟩ = some (.int .i64 0) := (Qe BK147.out 4).trans rfl; have hcz20_5 : w18.cell? ⟨gb147, 5, none⟩ = some (.slice none 0 0) := (Qe BK147.out 5).trans rfl; have hcz20_6 : w18.cell? ⟨gb147, 6, none⟩ = some (.int .i64 0) := (Qe BK147.out 6).trans rfl; have hcz20_7 : w18.cell? ⟨gb147, 7, none⟩ = some (.int .i64 0) := (Qe BK147.out 7).trans rfl; have hfz20_0 := Qc BK147.out 0; have hfz20_1 := Qc BK147.out 1; have hfz20_2 := Qc BK147.out 2; have hfz20_3 := Qc BK147.out 3; have hfz20_4 := Qc BK147.out 4; have hfz20_5 := Qc BK147.out 5; have hfz20_6 := Qc BK147.out 6; have hfz20_7 := Qc BK147.out 7)))
         (try simp only [Act.put, List.setIfInBounds_toArray, List.set_cons_zero, List.set_cons_succ])
         go_cut [94] (fun v94 wc => ∃ (kq : Nat) (x94_15 : Bool), v94 = .bool x94_15 ∧ Qf (Qn.j2 kq (l0_0.length : Int) x5_2 x94_15 l0_0 l0_1 l0_2 ((Qh l0_2 x5_2).f0) ((Qh l0_2 x5_2).f1) ((Qh l0_2 x5_2).f2) ((Qh l0_2 x5_2).f3) ((Qh l0_2 x5_2).f4) ((Qh l0_2 x5_2).f5.f0) ((Qh l0_2 x5_2).f5.f1) ((Qh l0_2 x5_2).f5.f2) = some r) ∧ Qf (kq ≤ k2) ∧ Qf (wc.heap[gb143]? = some (.cells #[(.slice A0_0 l0_0.length c0_0), (.slice A0_1 l0_1.length c0_1), (.slice (some ad146) l0_2.length c0_2)] 37 (0, 0))) ∧ Qf (wc.heap[gb147]? = some (.cells #[.int .i64 ((Qh l0_2 x5_2).f0), .int .i64 ((Qh l0_2 x5_2).f1), .int .i64 ((Qh l0_2 x5_2).f2), .int .i64 ((Qh l0_2 x5_2).f3), .int .i64 ((Qh l0_2 x5_2).f4), (.slice A146_5 ((Qh l0_2 x5_2).f5.f0).length c146_5), .int .i64 ((Qh l0_2 x5_2).f5.f1), .int .i64 ((Qh l0_2 x5_2).f5.f2)] 58 (0, 0))) ∧ Qf (Below w.heap.size w wc))
         case first =>
          have H := HC16.out
          clear HC16
          by_cases c21 : ((Qh l0_2 x5_2).f0) < 0
          ·rw [if_pos c21] at H
           have c21b0 : decide (((Qh l0_2 x5_2).f0) < 0) = true := decide_eq_true c21
           clear c21
           (first | rw [c21b0] | (simp only [Qt, Qu]; rw [c21b0]) | skip)
           have H' := Qf.mk H
           clear H
           have hnb22 := NB147_143.out
           have hnc22 := NB143_147.out
           have hcz23_0 : w18.cell? ⟨gb147, 0, none⟩ = some (.int .i64 0) := (Qe BK147.out 0).trans rfl
           have hcz23_1 : w18.cell? ⟨gb147, 1, none⟩ = some (.int .i64 0) := (Qe BK147.out 1).trans rfl
           have hcz23_2 : w18.cell? ⟨gb147, 2, none⟩ = some (.int .i64 0) := (Qe BK147.out 2).trans rfl
           have hcz23_3 : w18.cell? ⟨gb147, 3, none⟩ = some (.int .i64 0) := (Qe BK147.out 3).trans rfl
           have hcz23_4 : w18.cell? ⟨gb147, 4, none⟩ = some (.int .i64 0) := (Qe BK147.out 4).trans rfl
           have hcz23_5 : w18.cell? ⟨gb147, 5, none⟩ = some (.slice none 0 0) := (Qe BK147.out 5).trans rfl
           have hcz23_6 : w18.cell? ⟨gb147, 6, none⟩ = some (.int .i64 0) := (Qe BK147.out 6).trans rfl
           have hcz23_7 : w18.cell? ⟨gb147, 7, none⟩ = some (.int .i64 0) := (Qe BK147.out 7).trans rfl
           have hfz23_0 := Qc BK147.out 0
           have hfz23_1 := Qc BK147.out 1
           have hfz23_2 := Qc BK147.out 2
           have hfz23_3 := Qc BK147.out 3
           have hfz23_4 := Qc BK147.out 4
           have hfz23_5 := Qc BK147.out 5
           have hfz23_6 := Qc BK147.out 6
           have hfz23_7 := Qc BK147.out 7
           go_wp2
           repeat (go_quiet (fail); try go_wp2)
           go_meet
           case rel => exact ⟨_, (true), (by first | rfl | (simp; done) | (simp [*]; done)), H', ⟨by have := HK1.out; have := HK2.out; first | omega | exact Nat.le_refl _⟩, ⟨by (with_reducible repeat (first | refine Qd ?_ _ | refine Qg ?_ | refine Qb ?_ _)); refine Qv ?_ NB143_147.out _; (with_reducible repeat (first | refine Qd ?_ _ | refine Qg ?_ | refine Qb ?_ _)); refine Qv ?_ NB143_147.out _; (with_reducible repeat (first | refine Qd ?_ _ | refine Qg ?_ | refine Qb ?_ _)); refine Qv ?_ NB143_147.out _; (with_reducible repeat (first | refine Qd ?_ _ | refine Qg ?_ | refine Qb ?_ _)); refine Qv ?_ NB143_147.out _; (with_reducible repeat (first | refine Qd ?_ _ | refine Qg ?_ | refine Qb ?_ _)); refine Qv ?_ NB143_147.out _; (with_reducible repeat (first | refine Qd ?_ _ | refine Qg ?_ | refine Qb ?_ _)); refine Qv ?_ NB143_147.out _; (with_reducible repeat (first | refine Qd ?_ _ | refine Qg ?_ | refine Qb ?_ _)); refine Qv ?_ NB143_147.out _; (with_reducible repeat (first | refine Qd ?_ _ | refine Qg ?_ | refine Qb ?_ _)); refine Qv ?_ NB143_147.out _; (with_reducible repeat (first | refine Qd ?_ _ | refine Qg ?_ | refine Qb ?_ _)); exact BK143.out⟩, ⟨by (with_reducible repeat (first | refine Qd ?_ _ | refine Qg ?_ | refine Qb ?_ _)); refine Qy (cs := #[.int .i64 ((Qh l0_2 x5_2).f0), .int .i64 ((Qh l0_2 x5_2).f1), .int .i64 ((Qh l0_2 x5_2).f2), .int .i64 ((Qh l0_2 x5_2).f3), .int .i64 ((Qh l0_2 x5_2).f4), .slice A146_5 ((Qh l0_2 x5_2).f5.f0).length c146_5, .int .i64 ((Qh l0_2 x5_2).f5.f1), .int .i64 0]) ?_ 7 _ rfl; (with_reducible repeat (first | refine Qd ?_ _ | refine Qg ?_ | refine Qb ?_ _)); refine Qy (cs := #[.int .i64 ((Qh l0_2 x5_2).f0), .int .i64 ((Qh l0_2 x5_2).f1), .int .i64 ((Qh l0_2 x5_2).f2), .int .i64 ((Qh l0_2 x5_2).f3), .int .i64 ((Qh l0_2 x5_2).f4), .slice A146_5 ((Qh l0_2 x5_2).f5.f0).length c146_5, .int .i64 0, .int .i64 0]) ?_ 6 _ rfl; (with_reducible repeat (first | refine Qd ?_ _ | refine Qg ?_ | refine Qb ?_ _)); refine Qy (cs := #[.int .i64 ((Qh l0_2 x5_2).f0), .int .i64 ((Qh l0_2 x5_2).f1), .int .i64 ((Qh l0_2 x5_2).f2), .int .i64 ((Qh l0_2 x5_2).f3), .int .i64 ((Qh l0_2 x5_2).f4), .slice none 0 0, .int .i64 0, .int .i64 0]) ?_ 5 _ rfl; (with_reducible repeat (first | refine Qd ?_ _ | refine Qg ?_ | refine Qb ?_ _)); refine Qy (cs := #[.int .i64 ((Qh l0_2 x5_2).f0), .int .i64 ((Qh l0_2 x5_2).f1), .int .i64 ((Qh l0_2 x5_2).f2), .int .i64 ((Qh l0_2 x5_2).f3), .int .i64 0, .slice none 0 0, .int .i64 0, .int .i64 0]) ?_ 4 _ rfl; (with_reducible repeat (first | refine Qd ?_ _ | refine Qg ?_ | refine Qb ?_ _)); refine Qy (cs := #[.int .i64 ((Qh l0_2 x5_2).f0), .int .i64 ((Qh l0_2 x5_2).f1), .int .i64 ((Qh l0_2 x5_2).f2), .int .i64 0, .int .i64 0, .slice none 0 0, .int .i64 0, .int .i64 0]) ?_ 3 _ rfl; (with_reducible repeat (first | refine Qd ?_ _ | refine Qg ?_ | refine Qb ?_ _)); refine Qy (cs := #[.int .i64 ((Qh l0_2 x5_2).f0), .int .i64 ((Qh l0_2 x5_2).f1), .int .i64 0, .int .i64 0, .int .i64 0, .slice none 0 0, .int .i64 0, .int .i64 0]) ?_ 2 _ rfl; (with_reducible repeat (first | refine Qd ?_ _ | refine Qg ?_ | refine Qb ?_ _)); refine Qy (cs := #[.int .i64 ((Qh l0_2 x5_2).f0), .int .i64 0, .int .i64 0, .int .i64 0, .int .i64 0, .slice none 0 0, .int .i64 0, .int .i64 0]) ?_ 1 _ rfl; (with_reducible repeat (first | refine Qd ?_ _ | refine Qg ?_ | refine Qb ?_ _)); refine Qy (cs := #[.int .i64 0, .int .i64 0, .int .i64 0, .int .i64 0, .int .i64 0, .slice none 0 0, .int .i64 0, .int .i64 0]) ?_ 0 _ rfl; (with_reducible repeat (first | refine Qd ?_ _ | refine Qg ?_ | refine Qb ?_ _)); exact BK147.out⟩, ⟨by repeat (first | (with_reducible first | exact HB.out | apply Qi | apply Qa | apply Qj | refine Qk ?_ GE143.out | refine Qk ?_ GE147.out) | exact HB.out)⟩⟩
          ·rw [if_neg c21] at H
           have c21b0 : decide (((Qh l0_2 x5_2).f0) < 0) = false := decide_eq_false c21
           clear c21
           (first | rw [c21b0] | (simp only [Qt, Qu]; rw [c21b0]) | skip)
           by_cases c24 : ((Qh l0_2 x5_2).f0) ≥ (l0_0.length : Int)
           ·rw [if_pos c24] at H
            have c24b0 : decide ((l0_0.length : Int) ≤ ((Qh l0_2 x5_2).f0)) = true := decide_eq_true c24
            clear c24
            have H' := Qf.mk H
            clear H
            have hnb25 := NB147_143.out
            have hnc25 := NB143_147.out
            have hcz26_0 : w18.cell? ⟨gb147, 0, none⟩ = some (.int .i64 0) := (Qe BK147.out 0).trans rfl
            have hcz26_1 : w18.cell? ⟨gb147, 1, none⟩ = some (.int .i64 0) := (Qe BK147.out 1).trans rfl
            have hcz26_2 : w18.cell? ⟨gb147, 2, none⟩ = some (.int .i64 0) := (Qe BK147.out 2).trans rfl
            have hcz26_3 : w18.cell? ⟨gb147, 3, none⟩ = some (.int .i64 0) := (Qe BK147.out 3).trans rfl
            have hcz26_4 : w18.cell? ⟨gb147, 4, none⟩ = some (.int .i64 0) := (Qe BK147.out 4).trans rfl
            have hcz26_5 : w18.cell? ⟨gb147, 5, none⟩ = some (.slice none 0 0) := (Qe BK147.out 5).trans rfl
            have hcz26_6 : w18.cell? ⟨gb147, 6, none⟩ = some (.int .i64 0) := (Qe BK147.out 6).trans rfl
            have hcz26_7 : w18.cell? ⟨gb147, 7, none⟩ = some (.int .i64 0) := (Qe BK147.out 7).trans rfl
            have hfz26_0 := Qc BK147.out 0
            have hfz26_1 := Qc BK147.out 1
            have hfz26_2 := Qc BK147.out 2
            have hfz26_3 := Qc BK147.out 3
            have hfz26_4 := Qc BK147.out 4
            have hfz26_5 := Qc BK147.out 5
            have hfz26_6 := Qc BK147.out 6
            have hfz26_7 := Qc BK147.out 7
            go_wp2
            repeat (go_quiet (fail); try go_wp2)
            go_meet
            case rel => exact ⟨_, (true), (by first | rfl | (simp; done) | (simp [*]; done)), H', ⟨by have := HK1.out; have := HK2.out; first | omega | exact Nat.le_refl _⟩, ⟨by (with_reducible repeat (first | refine Qd ?_ _ | refine Qg ?_ | refine Qb ?_ _)); refine Qv ?_ NB143_147.out _; (with_reducible repeat (first | refine Qd ?_ _ | refine Qg ?_ | refine Qb ?_ _)); refine Qv ?_ NB143_147.out _; (with_reducible repeat (first | refine Qd ?_ _ | refine Qg ?_ | refine Qb ?_ _)); refine Qv ?_ NB143_147.out _; (with_reducible repeat (first | refine Qd ?_ _ | refine Qg ?_ | refine Qb ?_ _)); refine Qv ?_ NB143_147.out _; (with_reducible repeat (first | refine Qd ?_ _ | refine Qg ?_ | refine Qb ?_ _)); refine Qv ?_ NB143_147.out _; (with_reducible repeat (first | refine Qd ?_ _ | refine Qg ?_ | refine Qb ?_ _)); refine Qv ?_ NB143_147.out _; (with_reducible repeat (first | refine Qd ?_ _ | refine Qg ?_ | refine Qb ?_ _)); refine Qv ?_ NB143_147.out _; (with_reducible repeat (first | refine Qd ?_ _ | refine Qg ?_ | refine Qb ?_ _)); refine Qv ?_ NB143_147.out _; (with_reducible repeat (first | refine Qd ?_ _ | refine Qg ?_ | refine Qb ?_ _)); exact BK143.out⟩, ⟨by (with_reducible repeat (first | refine Qd ?_ _ | refine Qg ?_ | refine Qb ?_ _)); refine Qy (cs := #[.int .i64 ((Qh l0_2 x5_2).f0), .int .i64 ((Qh l0_2 x5_2).f1), .int .i64 ((Qh l0_2 x5_2).f2), .int .i64 ((Qh l0_2 x5_2).f3), .int .i64 ((Qh l0_2 x5_2).f4), .slice A146_5 ((Qh l0_2 x5_2).f5.f0).length c146_5, .int .i64 ((Qh l0_2 x5_2).f5.f1), .int .i64 0]) ?_ 7 _ rfl; (with_reducible repeat (first | refine Qd ?_ _ | refine Qg ?_ | refine Qb ?_ _)); refine Qy (cs := #[.int .i64 ((Qh l0_2 x5_2).f0), .int .i64 ((Qh l0_2 x5_2).f1), .int .i64 ((Qh l0_2 x5_2).f2), .int .i64 ((Qh l0_2 x5_2).f3), .int .i64 ((Qh l0_2 x5_2).f4), .slice A146_5 ((Qh l0_2 x5_2).f5.f0).length c146_5, .int .i64 0, .int .i64 0]) ?_ 6 _ rfl; (with_reducible repeat (first | refine Qd ?_ _ | refine Qg ?_ | refine Qb ?_ _)); refine Qy (cs := #[.int .i64 ((Qh l0_2 x5_2).f0), .int .i64 ((Qh l0_2 x5_2).f1), .int .i64 ((Qh l0_2 x5_2).f2), .int .i64 ((Qh l0_2 x5_2).f3), .int .i64 ((Qh l0_2 x5_2).f4), .slice none 0 0, .int .i64 0, .int .i64 0]) ?_ 5 _ rfl; (with_reducible repeat (first | refine Qd ?_ _ | refine Qg ?_ | refine Qb ?_ _)); refine Qy (cs := #[.int .i64 ((Qh l0_2 x5_2).f0), .int .i64 ((Qh l0_2 x5_2).f1), .int .i64 ((Qh l0_2 x5_2).f2), .int .i64 ((Qh l0_2 x5_2).f3), .int .i64 0, .slice none 0 0, .int .i64 0, .int .i64 0]) ?_ 4 _ rfl; (with_reducible repeat (first | refine Qd ?_ _ | refine Qg ?_ | refine Qb ?_ _)); refine Qy (cs := #[.int .i64 ((Qh l0_2 x5_2).f0), .int .i64 ((Qh l0_2 x5_2).f1), .int .i64 ((Qh l0_2 x5_2).f2), .int .i64 0, .int .i64 0, .slice none 0 0, .int .i64 0, .int .i64 0]) ?_ 3 _ rfl; (with_reducible repeat (first | refine Qd ?_ _ | refine Qg ?_ | refine Qb ?_ _)); refine Qy (cs := #[.int .i64 ((Qh l0_2 x5_2).f0), .int .i64 ((Qh l0_2 x5_2).f1), .int .i64 0, .int .i64 0, .int .i64 0, .slice none 0 0, .int .i64 0, .int .i64 0]) ?_ 2 _ rfl; (with_reducible repeat (first | refine Qd ?_ _ | refine Qg ?_ | refine Qb ?_ _)); refine Qy (cs := #[.int .i64 ((Qh l0_2 x5_2).f0), .int .i64 0, .int .i64 0, .int .i64 0, .int .i64 0, .slice none 0 0, .int .i64 0, .int .i64 0]) ?_ 1 _ rfl; (with_reducible repeat (first | refine Qd ?_ _ | refine Qg ?_ | refine Qb ?_ _)); refine Qy (cs := #[.int .i64 0, .int .i64 0, .int .i64 0, .int .i64 0, .int .i64 0, .slice none 0 0, .int .i64 0, .int .i64 0]) ?_ 0 _ rfl; (with_reducible repeat (first | refine Qd ?_ _ | refine Qg ?_ | refine Qb ?_ _)); exact BK147.out⟩, ⟨by repeat (first | (with_reducible first | exact HB.out | apply Qi | apply Qa | apply Qj | refine Qk ?_ GE143.out | refine Qk ?_ GE147.out) | exact HB.out)⟩⟩
           ·rw [if_neg c24] at H
            have c24b0 : decide ((l0_0.length : Int) ≤ ((Qh l0_2 x5_2).f0)) = false := decide_eq_false c24
            clear c24
            by_cases c27 : ((Qh l0_2 x5_2).f1) < 0
            ·rw [if_pos c27] at H
             have c27b0 : decide (((Qh l0_2 x5_2).f1) < 0) = true := decide_eq_true c27
             clear c27
             have H' := Qf.mk H
             clear H
             have hnb28 := NB147_143.out
             have hnc28 := NB143_147.out
             have hcz29_0 : w18.cell? ⟨gb147, 0, none⟩ = some (.int .i64 0) := (Qe BK147.out 0).trans rfl
             have hcz29_1 : w18.cell? ⟨gb147, 1, none⟩ = some (.int .i64 0) := (Qe BK147.out 1).trans rfl
             have hcz29_2 : w18.cell? ⟨gb147, 2, none⟩ = some (.int .i64 0) := (Qe BK147.out 2).trans rfl
             have hcz29_3 : w18.cell? ⟨gb147, 3, none⟩ = some (.int .i64 0) := (Qe BK147.out 3).trans rfl
             have hcz29_4 : w18.cell? ⟨gb147, 4, none⟩ = some (.int .i64 0) := (Qe BK147.out 4).trans rfl
             have hcz29_5 : w18.cell? ⟨gb147, 5, none⟩ = some (.slice none 0 0) := (Qe BK147.out 5).trans rfl
             have hcz29_6 : w18.cell? ⟨gb147, 6, none⟩ = some (.int .i64 0) := (Qe BK147.out 6).trans rfl
             have hcz29_7 : w18.cell? ⟨gb147, 7, none⟩ = some (.int .i64 0) := (Qe BK147.out 7).trans rfl
             have hfz29_0 := Qc BK147.out 0
             have hfz29_1 := Qc BK147.out 1
             have hfz29_2 := Qc BK147.out 2
             have hfz29_3 := Qc BK147.out 3
             have hfz29_4 := Qc BK147.out 4
             have hfz29_5 := Qc BK147.out 5
             have hfz29_6 := Qc BK147.out 6
             have hfz29_7 := Qc BK147.out 7
             go_wp2
             repeat (go_quiet (fail); try go_wp2)
             go_meet
             case rel => exact ⟨_, (true), (by first | rfl | (simp; done) | (simp [*]; done)), H', ⟨by have := HK1.out; have := HK2.out; first | omega | exact Nat.le_refl _⟩, ⟨by (with_reducible repeat (first | refine Qd ?_ _ | refine Qg ?_ | refine Qb ?_ _)); refine Qv ?_ NB143_147.out _; (with_reducible repeat (first | refine Qd ?_ _ | refine Qg ?_ | refine Qb ?_ _)); refine Qv ?_ NB143_147.out _; (with_reducible repeat (first | refine Qd ?_ _ | refine Qg ?_ | refine Qb ?_ _)); refine Qv ?_ NB143_147.out _; (with_reducible repeat (first | refine Qd ?_ _ | refine Qg ?_ | refine Qb ?_ _)); refine Qv ?_ NB143_147.out _; (with_reducible repeat (first | refine Qd ?_ _ | refine Qg ?_ | refine Qb ?_ _)); refine Qv ?_ NB143_147.out _; (with_reducible repeat (first | refine Qd ?_ _ | refine Qg ?_ | refine Qb ?_ _)); refine Qv ?_ NB143_147.out _; (with_reducible repeat (first | refine Qd ?_ _ | refine Qg ?_ | refine Qb ?_ _)); refine Qv ?_ NB143_147.out _; (with_reducible repeat (first | refine Qd ?_ _ | refine Qg ?_ | refine Qb ?_ _)); refine Qv ?_ NB143_147.out _; (with_reducible repeat (first | refine Qd ?_ _ | refine Qg ?_ | refine Qb ?_ _)); exact BK143.out⟩, ⟨by (with_reducible repeat (first | refine Qd ?_ _ | refine Qg ?_ | refine Qb ?_ _)); refine Qy (cs := #[.int .i64 ((Qh l0_2 x5_2).f0), .int .i64 ((Qh l0_2 x5_2).f1), .int .i64 ((Qh l0_2 x5_2).f2), .int .i64 ((Qh l0_2 x5_2).f3), .int .i64 ((Qh l0_2 x5_2).f4), .slice A146_5 ((Qh l0_2 x5_2).f5.f0).length c146_5, .int .i64 ((Qh l0_2 x5_2).f5.f1), .int .i64 0]) ?_ 7 _ rfl; (with_reducible repeat (first | refine Qd ?_ _ | refine Qg ?_ | refine Qb ?_ _)); refine Qy (cs := #[.int .i64 ((Qh l0_2 x5_2).f0), .int .i64 ((Qh l0_2 x5_2).f1), .int .i64 ((Qh l0_2 x5_2).f2), .int .i64 ((Qh l0_2 x5_2).f3), .int .i64 ((Qh l0_2 x5_2).f4), .slice A146_5 ((Qh l0_2 x5_2).f5.f0).length c146_5, .int .i64 0, .int .i64 0]) ?_ 6 _ rfl; (with_reducible repeat (first | refine Qd ?_ _ | refine Qg ?_ | refine Qb ?_ _)); refine Qy (cs := #[.int .i64 ((Qh l0_2 x5_2).f0), .int .i64 ((Qh l0_2 x5_2).f1), .int .i64 ((Qh l0_2 x5_2).f2), .int .i64 ((Qh l0_2 x5_2).f3), .int .i64 ((Qh l0_2 x5_2).f4), .slice none 0 0, .int .i64 0, .int .i64 0]) ?_ 5 _ rfl; (with_reducible repeat (first | refine Qd ?_ _ | refine Qg ?_ | refine Qb ?_ _)); refine Qy (cs := #[.int .i64 ((Qh l0_2 x5_2).f0), .int .i64 ((Qh l0_2 x5_2).f1), .int .i64 ((Qh l0_2 x5_2).f2), .int .i64 ((Qh l0_2 x5_2).f3), .int .i64 0, .slice none 0 0, .int .i64 0, .int .i64 0]) ?_ 4 _ rfl; (with_reducible repeat (first | refine Qd ?_ _ | refine Qg ?_ | refine Qb ?_ _)); refine Qy (cs := #[.int .i64 ((Qh l0_2 x5_2).f0), .int .i64 ((Qh l0_2 x5_2).f1), .int .i64 ((Qh l0_2 x5_2).f2), .int .i64 0, .int .i64 0, .slice none 0 0, .int .i64 0, .int .i64 0]) ?_ 3 _ rfl; (with_reducible repeat (first | refine Qd ?_ _ | refine Qg ?_ | refine Qb ?_ _)); refine Qy (cs := #[.int .i64 ((Qh l0_2 x5_2).f0), .int .i64 ((Qh l0_2 x5_2).f1), .int .i64 0, .int .i64 0, .int .i64 0, .slice none 0 0, .int .i64 0, .int .i64 0]) ?_ 2 _ rfl; (with_reducible repeat (first | refine Qd ?_ _ | refine Qg ?_ | refine Qb ?_ _)); refine Qy (cs := #[.int .i64 ((Qh l0_2 x5_2).f0), .int .i64 0, .int .i64 0, .int .i64 0, .int .i64 0, .slice none 0 0, .int .i64 0, .int .i64 0]) ?_ 1 _ rfl; (with_reducible repeat (first | refine Qd ?_ _ | refine Qg ?_ | refine Qb ?_ _)); refine Qy (cs := #[.int .i64 0, .int .i64 0, .int .i64 0, .int .i64 0, .int .i64 0, .slice none 0 0, .int .i64 0, .int .i64 0]) ?_ 0 _ rfl; (with_reducible repeat (first | refine Qd ?_ _ | refine Qg ?_ | refine Qb ?_ _)); exact BK147.out⟩, ⟨by repeat (first | (with_reducible first | exact HB.out | apply Qi | apply Qa | apply Qj | refine Qk ?_ GE143.out | refine Qk ?_ GE147.out) | exact HB.out)⟩⟩
            ·rw [if_neg c27] at H
             have c27b0 : decide (((Qh l0_2 x5_2).f1) < 0) = false := decide_eq_false c27
             clear c27
             by_cases c30 : ((Qh l0_2 x5_2).f1) ≥ (l0_0.length : Int)
             ·rw [if_pos c30] at H
              have c30b0 : decide ((l0_0.length : Int) ≤ ((Qh l0_2 x5_2).f1)) = true := decide_eq_true c30
              clear c30
              have H' := Qf.mk H
              clear H
              have hnb31 := NB147_143.out
              have hnc31 := NB143_147.out
              have hcz32_0 : w18.cell? ⟨gb147, 0, none⟩ = some (.int .i64 0) := (Qe BK147.out 0).trans rfl
              have hcz32_1 : w18.cell? ⟨gb147, 1, none⟩ = some (.int .i64 0) := (Qe BK147.out 1).trans rfl
              have hcz32_2 : w18.cell? ⟨gb147, 2, none⟩ = some (.int .i64 0) := (Qe BK147.out 2).trans rfl
              have hcz32_3 : w18.cell? ⟨gb147, 3, none⟩ = some (.int .i64 0) := (Qe BK147.out 3).trans rfl
              have hcz32_4 : w18.cell? ⟨gb147, 4, none⟩ = some (.int .i64 0) := (Qe BK147.out 4).trans rfl
              have hcz32_5 : w18.cell? ⟨gb147, 5, none⟩ = some (.slice none 0 0) := (Qe BK147.out 5).trans rfl
              have hcz32_6 : w18.cell? ⟨gb147, 6, none⟩ = some (.int .i64 0) := (Qe BK147.out 6).trans rfl
              have hcz32_7 : w18.cell? ⟨gb147, 7, none⟩ = some (.int .i64 0) := (Qe BK147.out 7).trans rfl
              have hfz32_0 := Qc BK147.out 0
              have hfz32_1 := Qc BK147.out 1
              have hfz32_2 := Qc BK147.out 2
              have hfz32_3 := Qc BK147.out 3
              have hfz32_4 := Qc BK147.out 4
              have hfz32_5 := Qc BK147.out 5
              have hfz32_6 := Qc BK147.out 6
              have hfz32_7 := Qc BK147.out 7
              go_wp2
              repeat (go_quiet (fail); try go_wp2)
              go_meet
              case rel => exact ⟨_, (true), (by first | rfl | (simp; done) | (simp [*]; done)), H', ⟨by have := HK1.out; have := HK2.out; first | omega | exact Nat.le_refl _⟩, ⟨by (with_reducible repeat (first | refine Qd ?_ _ | refine Qg ?_ | refine Qb ?_ _)); refine Qv ?_ NB143_147.out _; (with_reducible repeat (first | refine Qd ?_ _ | refine Qg ?_ | refine Qb ?_ _)); refine Qv ?_ NB143_147.out _; (with_reducible repeat (first | refine Qd ?_ _ | refine Qg ?_ | refine Qb ?_ _)); refine Qv ?_ NB143_147.out _; (with_reducible repeat (first | refine Qd ?_ _ | refine Qg ?_ | refine Qb ?_ _)); refine Qv ?_ NB143_147.out _; (with_reducible repeat (first | refine Qd ?_ _ | refine Qg ?_ | refine Qb ?_ _)); refine Qv ?_ NB143_147.out _; (with_reducible repeat (first | refine Qd ?_ _ | refine Qg ?_ | refine Qb ?_ _)); refine Qv ?_ NB143_147.out _; (with_reducible repeat (first | refine Qd ?_ _ | refine Qg ?_ | refine Qb ?_ _)); refine Qv ?_ NB143_147.out _; (with_reducible repeat (first | refine Qd ?_ _ | refine Qg ?_ | refine Qb ?_ _)); refine Qv ?_ NB143_147.out _; (with_reducible repeat (first | refine Qd ?_ _ | refine Qg ?_ | refine Qb ?_ _)); exact BK143.out⟩, ⟨by (with_reducible repeat (first | refine Qd ?_ _ | refine Qg ?_ | refine Qb ?_ _)); refine Qy (cs := #[.int .i64 ((Qh l0_2 x5_2).f0), .int .i64 ((Qh l0_2 x5_2).f1), .int .i64 ((Qh l0_2 x5_2).f2), .int .i64 ((Qh l0_2 x5_2).f3), .int .i64 ((Qh l0_2 x5_2).f4), .slice A146_5 ((Qh l0_2 x5_2).f5.f0).length c146_5, .int .i64 ((Qh l0_2 x5_2).f5.f1), .int .i64 0]) ?_ 7 _ rfl; (with_reducible repeat (first | refine Qd ?_ _ | refine Qg ?_ | refine Qb ?_ _)); refine Qy (cs := #[.int .i64 ((Qh l0_2 x5_2).f0), .int .i64 ((Qh l0_2 x5_2).f1), .int .i64 ((Qh l0_2 x5_2).f2), .int .i64 ((Qh l0_2 x5_2).f3), .int .i64 ((Qh l0_2 x5_2).f4), .slice A146_5 ((Qh l0_2 x5_2).f5.f0).length c146_5, .int .i64 0, .int .i64 0]) ?_ 6 _ rfl; (with_reducible repeat (first | refine Qd ?_ _ | refine Qg ?_ | refine Qb ?_ _)); refine Qy (cs := #[.int .i64 ((Qh l0_2 x5_2).f0), .int .i64 ((Qh l0_2 x5_2).f1), .int .i64 ((Qh l0_2 x5_2).f2), .int .i64 ((Qh l0_2 x5_2).f3), .int .i64 ((Qh l0_2 x5_2).f4), .slice none 0 0, .int .i64 0, .int .i64 0]) ?_ 5 _ rfl; (with_reducible repeat (first | refine Qd ?_ _ | refine Qg ?_ | refine Qb ?_ _)); refine Qy (cs := #[.int .i64 ((Qh l0_2 x5_2).f0), .int .i64 ((Qh l0_2 x5_2).f1), .int .i64 ((Qh l0_2 x5_2).f2), .int .i64 ((Qh l0_2 x5_2).f3), .int .i64 0, .slice none 0 0, .int .i64 0, .int .i64 0]) ?_ 4 _ rfl; (with_reducible repeat (first | refine Qd ?_ _ | refine Qg ?_ | refine Qb ?_ _)); refine Qy (cs := #[.int .i64 ((Qh l0_2 x5_2).f0), .int .i64 ((Qh l0_2 x5_2).f1), .int .i64 ((Qh l0_2 x5_2).f2), .int .i64 0, .int .i64 0, .slice none 0 0, .int .i64 0, .int .i64 0]) ?_ 3 _ rfl; (with_reducible repeat (first | refine Qd ?_ _ | refine Qg ?_ | refine Qb ?_ _)); refine Qy (cs := #[.int .i64 ((Qh l0_2 x5_2).f0), .int .i64 ((Qh l0_2 x5_2).f1), .int .i64 0, .int .i64 0, .int .i64 0, .slice none 0 0, .int .i64 0, .int .i64 0]) ?_ 2 _ rfl; (with_reducible repeat (first | refine Qd ?_ _ | refine Qg ?_ | refine Qb ?_ _)); refine Qy (cs := #[.int .i64 ((Qh l0_2 x5_2).f0), .int .i64 0, .int .i64 0, .int .i64 0, .int .i64 0, .slice none 0 0, .int .i64 0, .int .i64 0]) ?_ 1 _ rfl; (with_reducible repeat (first | refine Qd ?_ _ | refine Qg ?_ | refine Qb ?_ _)); refine Qy (cs := #[.int .i64 0, .int .i64 0, .int .i64 0, .int .i64 0, .int .i64 0, .slice none 0 0, .int .i64 0, .int .i64 0]) ?_ 0 _ rfl; (with_reducible repeat (first | refine Qd ?_ _ | refine Qg ?_ | refine Qb ?_ _)); exact BK147.out⟩, ⟨by repeat (first | (with_reducible first | exact HB.out | apply Qi | apply Qa | apply Qj | refine Qk ?_ GE143.out | refine Qk ?_ GE147.out) | exact HB.out)⟩⟩
             ·rw [if_neg c30] at H
              have c30b0 : decide ((l0_0.length : Int) ≤ ((Qh l0_2 x5_2).f1)) = false := decide_eq_false c30
              clear c30
              by_cases c33 : ((Qh l0_2 x5_2).f2) < 1
              ·rw [if_pos c33] at H
               have c33b0 : decide (((Qh l0_2 x5_2).f2) < 1) = true := decide_eq_true c33
               clear c33
               have H' := Qf.mk H
               clear H
               have hnb34 := NB147_143.out
               have hnc34 := NB143_147.out
               have hcz35_0 : w18.cell? ⟨gb147, 0, none⟩ = some (.int .i64 0) := (Qe BK147.out 0).trans rfl
               have hcz35_1 : w18.cell? ⟨gb147, 1, none⟩ = some (.int .i64 0) := (Qe BK147.out 1).trans rfl
               have hcz35_2 : w18.cell? ⟨gb147, 2, none⟩ = some (.int .i64 0) := (Qe BK147.out 2).trans rfl
               have hcz35_3 : w18.cell? ⟨gb147, 3, none⟩ = some (.int .i64 0) := (Qe BK147.out 3).trans rfl
               have hcz35_4 : w18.cell? ⟨gb147, 4, none⟩ = some (.int .i64 0) := (Qe BK147.out 4).trans rfl
               have hcz35_5 : w18.cell? ⟨gb147, 5, none⟩ = some (.slice none 0 0) := (Qe BK147.out 5).trans rfl
               have hcz35_6 : w18.cell? ⟨gb147, 6, none⟩ = some (.int .i64 0) := (Qe BK147.out 6).trans rfl
               have hcz35_7 : w18.cell? ⟨gb147, 7, none⟩ = some (.int .i64 0) := (Qe BK147.out 7).trans rfl
               have hfz35_0 := Qc BK147.out 0
               have hfz35_1 := Qc BK147.out 1
               have hfz35_2 := Qc BK147.out 2
               have hfz35_3 := Qc BK147.out 3
               have hfz35_4 := Qc BK147.out 4
               have hfz35_5 := Qc BK147.out 5
               have hfz35_6 := Qc BK147.out 6
               have hfz35_7 := Qc BK147.out 7
               go_wp2
               repeat (go_quiet (fail); try go_wp2)
               go_meet
               case rel => exact ⟨_, (true), (by first | rfl | (simp; done) | (simp [*]; done)), H', ⟨by have := HK1.out; have := HK2.out; first | omega | exact Nat.le_refl _⟩, ⟨by (with_reducible repeat (first | refine Qd ?_ _ | refine Qg ?_ | refine Qb ?_ _)); refine Qv ?_ NB143_147.out _; (with_reducible repeat (first | refine Qd ?_ _ | refine Qg ?_ | refine Qb ?_ _)); refine Qv ?_ NB143_147.out _; (with_reducible repeat (first | refine Qd ?_ _ | refine Qg ?_ | refine Qb ?_ _)); refine Qv ?_ NB143_147.out _; (with_reducible repeat (first | refine Qd ?_ _ | refine Qg ?_ | refine Qb ?_ _)); refine Qv ?_ NB143_147.out _; (with_reducible repeat (first | refine Qd ?_ _ | refine Qg ?_ | refine Qb ?_ _)); refine Qv ?_ NB143_147.out _; (with_reducible repeat (first | refine Qd ?_ _ | refine Qg ?_ | refine Qb ?_ _)); refine Qv ?_ NB143_147.out _; (with_reducible repeat (first | refine Qd ?_ _ | refine Qg ?_ | refine Qb ?_ _)); refine Qv ?_ NB143_147.out _; (with_reducible repeat (first | refine Qd ?_ _ | refine Qg ?_ | refine Qb ?_ _)); refine Qv ?_ NB143_147.out _; (with_reducible repeat (first | refine Qd ?_ _ | refine Qg ?_ | refine Qb ?_ _)); exact BK143.out⟩, ⟨by (with_reducible repeat (first | refine Qd ?_ _ | refine Qg ?_ | refine Qb ?_ _)); refine Qy (cs := #[.int .i64 ((Qh l0_2 x5_2).f0), .int .i64 ((Qh l0_2 x5_2).f1), .int .i64 ((Qh l0_2 x5_2).f2), .int .i64 ((Qh l0_2 x5_2).f3), .int .i64 ((Qh l0_2 x5_2).f4), .slice A146_5 ((Qh l0_2 x5_2).f5.f0).length c146_5, .int .i64 ((Qh l0_2 x5_2).f5.f1), .int .i64 0]) ?_ 7 _ rfl; (with_reducible repeat (first | refine Qd ?_ _ | refine Qg ?_ | refine Qb ?_ _)); refine Qy (cs := #[.int .i64 ((Qh l0_2 x5_2).f0), .int .i64 ((Qh l0_2 x5_2).f1), .int .i64 ((Qh l0_2 x5_2).f2), .int .i64 ((Qh l0_2 x5_2).f3), .int .i64 ((Qh l0_2 x5_2).f4), .slice A146_5 ((Qh l0_2 x5_2).f5.f0).length c146_5, .int .i64 0, .int .i64 0]) ?_ 6 _ rfl; (with_reducible repeat (first | refine Qd ?_ _ | refine Qg ?_ | refine Qb ?_ _)); refine Qy (cs := #[.int .i64 ((Qh l0_2 x5_2).f0), .int .i64 ((Qh l0_2 x5_2).f1), .int .i64 ((Qh l0_2 x5_2).f2), .int .i64 ((Qh l0_2 x5_2).f3), .int .i64 ((Qh l0_2 x5_2).f4), .slice none 0 0, .int .i64 0, .int .i64 0]) ?_ 5 _ rfl; (with_reducible repeat (first | refine Qd ?_ _ | refine Qg ?_ | refine Qb ?_ _)); refine Qy (cs := #[.int .i64 ((Qh l0_2 x5_2).f0), .int .i64 ((Qh l0_2 x5_2).f1), .int .i64 ((Qh l0_2 x5_2).f2), .int .i64 ((Qh l0_2 x5_2).f3), .int .i64 0, .slice none 0 0, .int .i64 0, .int .i64 0]) ?_ 4 _ rfl; (with_reducible repeat (first | refine Qd ?_ _ | refine Qg ?_ | refine Qb ?_ _)); refine Qy (cs := #[.int .i64 ((Qh l0_2 x5_2).f0), .int .i64 ((Qh l0_2 x5_2).f1), .int .i64 ((Qh l0_2 x5_2).f2), .int .i64 0, .int .i64 0, .slice none 0 0, .int .i64 0, .int .i64 0]) ?_ 3 _ rfl; (with_reducible repeat (first | refine Qd ?_ _ | refine Qg ?_ | refine Qb ?_ _)); refine Qy (cs := #[.int .i64 ((Qh l0_2 x5_2).f0), .int .i64 ((Qh l0_2 x5_2).f1), .int .i64 0, .int .i64 0, .int .i64 0, .slice none 0 0, .int .i64 0, .int .i64 0]) ?_ 2 _ rfl; (with_reducible repeat (first | refine Qd ?_ _ | refine Qg ?_ | refine Qb ?_ _)); refine Qy (cs := #[.int .i64 ((Qh l0_2 x5_2).f0), .int .i64 0, .int .i64 0, .int .i64 0, .int .i64 0, .slice none 0 0, .int .i64 0, .int .i64 0]) ?_ 1 _ rfl; (with_reducible repeat (first | refine Qd ?_ _ | refine Qg ?_ | refine Qb ?_ _)); refine Qy (cs := #[.int .i64 0, .int .i64 0, .int .i64 0, .int .i64 0, .int .i64 0, .slice none 0 0, .int .i64 0, .int .i64 0]) ?_ 0 _ rfl; (with_reducible repeat (first | refine Qd ?_ _ | refine Qg ?_ | refine Qb ?_ _)); exact BK147.out⟩, ⟨by repeat (first | (with_reducible first | exact HB.out | apply Qi | apply Qa | apply Qj | refine Qk ?_ GE143.out | refine Qk ?_ GE147.out) | exact HB.out)⟩⟩
              ·rw [if_neg c33] at H
               have c33b0 : decide (((Qh l0_2 x5_2).f2) < 1) = false := decide_eq_false c33
               clear c33
               by_cases c36 : ((Qh l0_2 x5_2).f2) > 2147483647
               ·rw [if_pos c36] at H
                have c36b0 : decide (2147483647 < ((Qh l0_2 x5_2).f2)) = true := decide_eq_true c36
                clear c36
                have H' := Qf.mk H
                clear H
                have hnb37 := NB147_143.out
                have hnc37 := NB143_147.out
                have hcz38_0 : w18.cell? ⟨gb147, 0, none⟩ = some (.int .i64 0) := (Qe BK147.out 0).trans rfl
                have hcz38_1 : w18.cell? ⟨gb147, 1, none⟩ = some (.int .i64 0) := (Qe BK147.out 1).trans rfl
                have hcz38_2 : w18.cell? ⟨gb147, 2, none⟩ = some (.int .i64 0) := (Qe BK147.out 2).trans rfl
                have hcz38_3 : w18.cell? ⟨gb147, 3, none⟩ = some (.int .i64 0) := (Qe BK147.out 3).trans rfl
                have hcz38_4 : w18.cell? ⟨gb147, 4, none⟩ = some (.int .i64 0) := (Qe BK147.out 4).trans rfl
                have hcz38_5 : w18.cell? ⟨gb147, 5, none⟩ = some (.slice none 0 0) := (Qe BK147.out 5).trans rfl
                have hcz38_6 : w18.cell? ⟨gb147, 6, none⟩ = some (.int .i64 0) := (Qe BK147.out 6).trans rfl
                have hcz38_7 : w18.cell? ⟨gb147, 7, none⟩ = some (.int .i64 0) := (Qe BK147.out 7).trans rfl
                have hfz38_0 := Qc BK147.out 0
                have hfz38_1 := Qc BK147.out 1
                have hfz38_2 := Qc BK147.out 2
                have hfz38_3 := Qc BK147.out 3
                have hfz38_4 := Qc BK147.out 4
                have hfz38_5 := Qc BK147.out 5
                have hfz38_6 := Qc BK147.out 6
                have hfz38_7 := Qc BK147.out 7
                go_wp2
                repeat (go_quiet (fail); try go_wp2)
                go_meet
                case rel => exact ⟨_, (true), (by first | rfl | (simp; done) | (simp [*]; done)), H', ⟨by have := HK1.out; have := HK2.out; first | omega | exact Nat.le_refl _⟩, ⟨by (with_reducible repeat (first | refine Qd ?_ _ | refine Qg ?_ | refine Qb ?_ _)); refine Qv ?_ NB143_147.out _; (with_reducible repeat (first | refine Qd ?_ _ | refine Qg ?_ | refine Qb ?_ _)); refine Qv ?_ NB143_147.out _; (with_reducible repeat (first | refine Qd ?_ _ | refine Qg ?_ | refine Qb ?_ _)); refine Qv ?_ NB143_147.out _; (with_reducible repeat (first | refine Qd ?_ _ | refine Qg ?_ | refine Qb ?_ _)); refine Qv ?_ NB143_147.out _; (with_reducible repeat (first | refine Qd ?_ _ | refine Qg ?_ | refine Qb ?_ _)); refine Qv ?_ NB143_147.out _; (with_reducible repeat (first | refine Qd ?_ _ | refine Qg ?_ | refine Qb ?_ _)); refine Qv ?_ NB143_147.out _; (with_reducible repeat (first | refine Qd ?_ _ | refine Qg ?_ | refine Qb ?_ _)); refine Qv ?_ NB143_147.out _; (with_reducible repeat (first | refine Qd ?_ _ | refine Qg ?_ | refine Qb ?_ _)); refine Qv ?_ NB143_147.out _; (with_reducible repeat (first | refine Qd ?_ _ | refine Qg ?_ | refine Qb ?_ _)); exact BK143.out⟩, ⟨by (with_reducible repeat (first | refine Qd ?_ _ | refine Qg ?_ | refine Qb ?_ _)); refine Qy (cs := #[.int .i64 ((Qh l0_2 x5_2).f0), .int .i64 ((Qh l0_2 x5_2).f1), .int .i64 ((Qh l0_2 x5_2).f2), .int .i64 ((Qh l0_2 x5_2).f3), .int .i64 ((Qh l0_2 x5_2).f4), .slice A146_5 ((Qh l0_2 x5_2).f5.f0).length c146_5, .int .i64 ((Qh l0_2 x5_2).f5.f1), .int .i64 0]) ?_ 7 _ rfl; (with_reducible repeat (first | refine Qd ?_ _ | refine Qg ?_ | refine Qb ?_ _)); refine Qy (cs := #[.int .i64 ((Qh l0_2 x5_2).f0), .int .i64 ((Qh l0_2 x5_2).f1), .int .i64 ((Qh l0_2 x5_2).f2), .int .i64 ((Qh l0_2 x5_2).f3), .int .i64 ((Qh l0_2 x5_2).f4), .slice A146_5 ((Qh l0_2 x5_2).f5.f0).length c146_5, .int .i64 0, .int .i64 0]) ?_ 6 _ rfl; (with_reducible repeat (first | refine Qd ?_ _ | refine Qg ?_ | refine Qb ?_ _)); refine Qy (cs := #[.int .i64 ((Qh l0_2 x5_2).f0), .int .i64 ((Qh l0_2 x5_2).f1), .int .i64 ((Qh l0_2 x5_2).f2), .int .i64 ((Qh l0_2 x5_2).f3), .int .i64 ((Qh l0_2 x5_2).f4), .slice none 0 0, .int .i64 0, .int .i64 0]) ?_ 5 _ rfl; (with_reducible repeat (first | refine Qd ?_ _ | refine Qg ?_ | refine Qb ?_ _)); refine Qy (cs := #[.int .i64 ((Qh l0_2 x5_2).f0), .int .i64 ((Qh l0_2 x5_2).f1), .int .i64 ((Qh l0_2 x5_2).f2), .int .i64 ((Qh l0_2 x5_2).f3), .int .i64 0, .slice none 0 0, .int .i64 0, .int .i64 0]) ?_ 4 _ rfl; (with_reducible repeat (first | refine Qd ?_ _ | refine Qg ?_ | refine Qb ?_ _)); refine Qy (cs := #[.int .i64 ((Qh l0_2 x5_2).f0), .int .i64 ((Qh l0_2 x5_2).f1), .int .i64 ((Qh l0_2 x5_2).f2), .int .i64 0, .int .i64 0, .slice none 0 0, .int .i64 0, .int .i64 0]) ?_ 3 _ rfl; (with_reducible repeat (first | refine Qd ?_ _ | refine Qg ?_ | refine Qb ?_ _)); refine Qy (cs := #[.int .i64 ((Qh l0_2 x5_2).f0), .int .i64 ((Qh l0_2 x5_2).f1), .int .i64 0, .int .i64 0, .int .i64 0, .slice none 0 0, .int .i64 0, .int .i64 0]) ?_ 2 _ rfl; (with_reducible repeat (first | refine Qd ?_ _ | refine Qg ?_ | refine Qb ?_ _)); refine Qy (cs := #[.int .i64 ((Qh l0_2 x5_2).f0), .int .i64 0, .int .i64 0, .int .i64 0, .int .i64 0, .slice none 0 0, .int .i64 0, .int .i64 0]) ?_ 1 _ rfl; (with_reducible repeat (first | refine Qd ?_ _ | refine Qg ?_ | refine Qb ?_ _)); refine Qy (cs := #[.int .i64 0, .int .i64 0, .int .i64 0, .int .i64 0, .int .i64 0, .slice none 0 0, .int .i64 0, .int .i64 0]) ?_ 0 _ rfl; (with_reducible repeat (first | refine Qd ?_ _ | refine Qg ?_ | refine Qb ?_ _)); exact BK147.out⟩, ⟨by repeat (first | (with_reducible first | exact HB.out | apply Qi | apply Qa | apply Qj | refine Qk ?_ GE143.out | refine Qk ?_ GE147.out) | exact HB.out)⟩⟩
               ·rw [if_neg c36] at H
                have c36b0 : decide (2147483647 < ((Qh l0_2 x5_2).f2)) = false := decide_eq_false c36
                clear c36
                by_cases c39 : ((Qh l0_2 x5_2).f4) < 1
                ·rw [if_pos c39] at H
                 have c39b0 : decide (((Qh l0_2 x5_2).f4) < 1) = true := decide_eq_true c39
                 clear c39
                 have H' := Qf.mk H
                 clear H
                 have hnb40 := NB147_143.out
                 have hnc40 := NB143_147.out
                 have hcz41_0 : w18.cell? ⟨gb147, 0, none⟩ = some (.int .i64 0) := (Qe BK147.out 0).trans rfl
                 have hcz41_1 : w18.cell? ⟨gb147, 1, none⟩ = some (.int .i64 0) := (Qe BK147.out 1).trans rfl
                 have hcz41_2 : w18.cell? ⟨gb147, 2, none⟩ = some (.int .i64 0) := (Qe BK147.out 2).trans rfl
                 have hcz41_3 : w18.cell? ⟨gb147, 3, none⟩ = some (.int .i64 0) := (Qe BK147.out 3).trans rfl
                 have hcz41_4 : w18.cell? ⟨gb147, 4, none⟩ = some (.int .i64 0) := (Qe BK147.out 4).trans rfl
                 have hcz41_5 : w18.cell? ⟨gb147, 5, none⟩ = some (.slice none 0 0) := (Qe BK147.out 5).trans rfl
                 have hcz41_6 : w18.cell? ⟨gb147, 6, none⟩ = some (.int .i64 0) := (Qe BK147.out 6).trans rfl
                 have hcz41_7 : w18.cell? ⟨gb147, 7, none⟩ = some (.int .i64 0) := (Qe BK147.out 7).trans rfl
                 have hfz41_0 := Qc BK147.out 0
                 have hfz41_1 := Qc BK147.out 1
                 have hfz41_2 := Qc BK147.out 2
                 have hfz41_3 := Qc BK147.out 3
                 have hfz41_4 := Qc BK147.out 4
                 have hfz41_5 := Qc BK147.out 5
                 have hfz41_6 := Qc BK147.out 6
                 have hfz41_7 := Qc BK147.out 7
                 go_wp2
                 repeat (go_quiet (fail); try go_wp2)
                 go_meet
                 case rel => exact ⟨_, (true), (by first | rfl | (simp; done) | (simp [*]; done)), H', ⟨by have := HK1.out; have := HK2.out; first | omega | exact Nat.le_refl _⟩, ⟨by (with_reducible repeat (first | refine Qd ?_ _ | refine Qg ?_ | refine Qb ?_ _)); refine Qv ?_ NB143_147.out _; (with_reducible repeat (first | refine Qd ?_ _ | refine Qg ?_ | refine Qb ?_ _)); refine Qv ?_ NB143_147.out _; (with_reducible repeat (first | refine Qd ?_ _ | refine Qg ?_ | refine Qb ?_ _)); refine Qv ?_ NB143_147.out _; (with_reducible repeat (first | refine Qd ?_ _ | refine Qg ?_ | refine Qb ?_ _)); refine Qv ?_ NB143_147.out _; (with_reducible repeat (first | refine Qd ?_ _ | refine Qg ?_ | refine Qb ?_ _)); refine Qv ?_ NB143_147.out _; (with_reducible repeat (first | refine Qd ?_ _ | refine Qg ?_ | refine Qb ?_ _)); refine Qv ?_ NB143_147.out _; (with_reducible repeat (first | refine Qd ?_ _ | refine Qg ?_ | refine Qb ?_ _)); refine Qv ?_ NB143_147.out _; (with_reducible repeat (first | refine Qd ?_ _ | refine Qg ?_ | refine Qb ?_ _)); refine Qv ?_ NB143_147.out _; (with_reducible repeat (first | refine Qd ?_ _ | refine Qg ?_ | refine Qb ?_ _)); exact BK143.out⟩, ⟨by (with_reducible repeat (first | refine Qd ?_ _ | refine Qg ?_ | refine Qb ?_ _)); refine Qy (cs := #[.int .i64 ((Qh l0_2 x5_2).f0), .int .i64 ((Qh l0_2 x5_2).f1), .int .i64 ((Qh l0_2 x5_2).f2), .int .i64 ((Qh l0_2 x5_2).f3), .int .i64 ((Qh l0_2 x5_2).f4), .slice A146_5 ((Qh l0_2 x5_2).f5.f0).length c146_5, .int .i64 ((Qh l0_2 x5_2).f5.f1), .int .i64 0]) ?_ 7 _ rfl; (with_reducible repeat (first | refine Qd ?_ _ | refine Qg ?_ | refine Qb ?_ _)); refine Qy (cs := #[.int .i64 ((Qh l0_2 x5_2).f0), .int .i64 ((Qh l0_2 x5_2).f1), .int .i64 ((Qh l0_2 x5_2).f2), .int .i64 ((Qh l0_2 x5_2).f3), .int .i64 ((Qh l0_2 x5_2).f4), .slice A146_5 ((Qh l0_2 x5_2).f5.f0).length c146_5, .int .i64 0, .int .i64 0]) ?_ 6 _ rfl; (with_reducible repeat (first | refine Qd ?_ _ | refine Qg ?_ | refine Qb ?_ _)); refine Qy (cs := #[.int .i64 ((Qh l0_2 x5_2).f0), .int .i64 ((Qh l0_2 x5_2).f1), .int .i64 ((Qh l0_2 x5_2).f2), .int .i64 ((Qh l0_2 x5_2).f3), .int .i64 ((Qh l0_2 x5_2).f4), .slice none 0 0, .int .i64 0, .int .i64 0]) ?_ 5 _ rfl; (with_reducible repeat (first | refine Qd ?_ _ | refine Qg ?_ | refine Qb ?_ _)); refine Qy (cs := #[.int .i64 ((Qh l0_2 x5_2).f0), .int .i64 ((Qh l0_2 x5_2).f1), .int .i64 ((Qh l0_2 x5_2).f2), .int .i64 ((Qh l0_2 x5_2).f3), .int .i64 0, .slice none 0 0, .int .i64 0, .int .i64 0]) ?_ 4 _ rfl; (with_reducible repeat (first | refine Qd ?_ _ | refine Qg ?_ | refine Qb ?_ _)); refine Qy (cs := #[.int .i64 ((Qh l0_2 x5_2).f0), .int .i64 ((Qh l0_2 x5_2).f1), .int .i64 ((Qh l0_2 x5_2).f2), .int .i64 0, .int .i64 0, .slice none 0 0, .int .i64 0, .int .i64 0]) ?_ 3 _ rfl; (with_reducible repeat (first | refine Qd ?_ _ | refine Qg ?_ | refine Qb ?_ _)); refine Qy (cs := #[.int .i64 ((Qh l0_2 x5_2).f0), .int .i64 ((Qh l0_2 x5_2).f1), .int .i64 0, .int .i64 0, .int .i64 0, .slice none 0 0, .int .i64 0, .int .i64 0]) ?_ 2 _ rfl; (with_reducible repeat (first | refine Qd ?_ _ | refine Qg ?_ | refine Qb ?_ _)); refine Qy (cs := #[.int .i64 ((Qh l0_2 x5_2).f0), .int .i64 0, .int .i64 0, .int .i64 0, .int .i64 0, .slice none 0 0, .int .i64 0, .int .i64 0]) ?_ 1 _ rfl; (with_reducible repeat (first | refine Qd ?_ _ | refine Qg ?_ | refine Qb ?_ _)); refine Qy (cs := #[.int .i64 0, .int .i64 0, .int .i64 0, .int .i64 0, .int .i64 0, .slice none 0 0, .int .i64 0, .int .i64 0]) ?_ 0 _ rfl; (with_reducible repeat (first | refine Qd ?_ _ | refine Qg ?_ | refine Qb ?_ _)); exact BK147.out⟩, ⟨by repeat (first | (with_reducible first | exact HB.out | apply Qi | apply Qa | apply Qj | refine Qk ?_ GE143.out | refine Qk ?_ GE147.out) | exact HB.out)⟩⟩
                ·rw [if_neg c39] at H
                 have c39b0 : decide (((Qh l0_2 x5_2).f4) < 1) = false := decide_eq_false c39
                 clear c39
                 by_cases c42 : ((Qh l0_2 x5_2).f4) > 6
                 ·rw [if_pos c42] at H
                  have c42b0 : decide (6 < ((Qh l0_2 x5_2).f4)) = true := decide_eq_true c42
                  clear c42
                  have H' := Qf.mk H
                  clear H
                  have hnb43 := NB147_143.out
                  have hnc43 := NB143_147.out
                  have hcz44_0 : w18.cell? ⟨gb147, 0, none⟩ = some (.int .i64 0) := (Qe BK147.out 0).trans rfl
                  have hcz44_1 : w18.cell? ⟨gb147, 1, none⟩ = some (.int .i64 0) := (Qe BK147.out 1).trans rfl
                  have hcz44_2 : w18.cell? ⟨gb147, 2, none⟩ = some (.int .i64 0) := (Qe BK147.out 2).trans rfl
                  have hcz44_3 : w18.cell? ⟨gb147, 3, none⟩ = some (.int .i64 0) := (Qe BK147.out 3).trans rfl
                  have hcz44_4 : w18.cell? ⟨gb147, 4, none⟩ = some (.int .i64 0) := (Qe BK147.out 4).trans rfl
                  have hcz44_5 : w18.cell? ⟨gb147, 5, none⟩ = some (.slice none 0 0) := (Qe BK147.out 5).trans rfl
                  have hcz44_6 : w18.cell? ⟨gb147, 6, none⟩ = some (.int .i64 0) := (Qe BK147.out 6).trans rfl
                  have hcz44_7 : w18.cell? ⟨gb147, 7, none⟩ = some (.int .i64 0) := (Qe BK147.out 7).trans rfl
                  have hfz44_0 := Qc BK147.out 0
                  have hfz44_1 := Qc BK147.out 1
                  have hfz44_2 := Qc BK147.out 2
                  have hfz44_3 := Qc BK147.out 3
                  have hfz44_4 := Qc BK147.out 4
                  have hfz44_5 := Qc BK147.out 5
                  have hfz44_6 := Qc BK147.out 6
                  have hfz44_7 := Qc BK147.out 7
                  go_wp2
                  repeat (go_quiet (fail); try go_wp2)
                  go_meet
                  case rel => exact ⟨_, (true), (by first | rfl | (simp; done) | (simp [*]; done)), H', ⟨by have := HK1.out; have := HK2.out; first | omega | exact Nat.le_refl _⟩, ⟨by (with_reducible repeat (first | refine Qd ?_ _ | refine Qg ?_ | refine Qb ?_ _)); refine Qv ?_ NB143_147.out _; (with_reducible repeat (first | refine Qd ?_ _ | refine Qg ?_ | refine Qb ?_ _)); refine Qv ?_ NB143_147.out _; (with_reducible repeat (first | refine Qd ?_ _ | refine Qg ?_ | refine Qb ?_ _)); refine Qv ?_ NB143_147.out _; (with_reducible repeat (first | refine Qd ?_ _ | refine Qg ?_ | refine Qb ?_ _)); refine Qv ?_ NB143_147.out _; (with_reducible repeat (first | refine Qd ?_ _ | refine Qg ?_ | refine Qb ?_ _)); refine Qv ?_ NB143_147.out _; (with_reducible repeat (first | refine Qd ?_ _ | refine Qg ?_ | refine Qb ?_ _)); refine Qv ?_ NB143_147.out _; (with_reducible repeat (first | refine Qd ?_ _ | refine Qg ?_ | refine Qb ?_ _)); refine Qv ?_ NB143_147.out _; (with_reducible repeat (first | refine Qd ?_ _ | refine Qg ?_ | refine Qb ?_ _)); refine Qv ?_ NB143_147.out _; (with_reducible repeat (first | refine Qd ?_ _ | refine Qg ?_ | refine Qb ?_ _)); exact BK143.out⟩, ⟨by (with_reducible repeat (first | refine Qd ?_ _ | refine Qg ?_ | refine Qb ?_ _)); refine Qy (cs := #[.int .i64 ((Qh l0_2 x5_2).f0), .int .i64 ((Qh l0_2 x5_2).f1), .int .i64 ((Qh l0_2 x5_2).f2), .int .i64 ((Qh l0_2 x5_2).f3), .int .i64 ((Qh l0_2 x5_2).f4), .slice A146_5 ((Qh l0_2 x5_2).f5.f0).length c146_5, .int .i64 ((Qh l0_2 x5_2).f5.f1), .int .i64 0]) ?_ 7 _ rfl; (with_reducible repeat (first | refine Qd ?_ _ | refine Qg ?_ | refine Qb ?_ _)); refine Qy (cs := #[.int .i64 ((Qh l0_2 x5_2).f0), .int .i64 ((Qh l0_2 x5_2).f1), .int .i64 ((Qh l0_2 x5_2).f2), .int .i64 ((Qh l0_2 x5_2).f3), .int .i64 ((Qh l0_2 x5_2).f4), .slice A146_5 ((Qh l0_2 x5_2).f5.f0).length c146_5, .int .i64 0, .int .i64 0]) ?_ 6 _ rfl; (with_reducible repeat (first | refine Qd ?_ _ | refine Qg ?_ | refine Qb ?_ _)); refine Qy (cs := #[.int .i64 ((Qh l0_2 x5_2).f0), .int .i64 ((Qh l0_2 x5_2).f1), .int .i64 ((Qh l0_2 x5_2).f2), .int .i64 ((Qh l0_2 x5_2).f3), .int .i64 ((Qh l0_2 x5_2).f4), .slice none 0 0, .int .i64 0, .int .i64 0]) ?_ 5 _ rfl; (with_reducible repeat (first | refine Qd ?_ _ | refine Qg ?_ | refine Qb ?_ _)); refine Qy (cs := #[.int .i64 ((Qh l0_2 x5_2).f0), .int .i64 ((Qh l0_2 x5_2).f1), .int .i64 ((Qh l0_2 x5_2).f2), .int .i64 ((Qh l0_2 x5_2).f3), .int .i64 0, .slice none 0 0, .int .i64 0, .int .i64 0]) ?_ 4 _ rfl; (with_reducible repeat (first | refine Qd ?_ _ | refine Qg ?_ | refine Qb ?_ _)); refine Qy (cs := #[.int .i64 ((Qh l0_2 x5_2).f0), .int .i64 ((Qh l0_2 x5_2).f1), .int .i64 ((Qh l0_2 x5_2).f2), .int .i64 0, .int .i64 0, .slice none 0 0, .int .i64 0, .int .i64 0]) ?_ 3 _ rfl; (with_reducible repeat (first | refine Qd ?_ _ | refine Qg ?_ | refine Qb ?_ _)); refine Qy (cs := #[.int .i64 ((Qh l0_2 x5_2).f0), .int .i64 ((Qh l0_2 x5_2).f1), .int .i64 0, .int .i64 0, .int .i64 0, .slice none 0 0, .int .i64 0, .int .i64 0]) ?_ 2 _ rfl; (with_reducible repeat (first | refine Qd ?_ _ | refine Qg ?_ | refine Qb ?_ _)); refine Qy (cs := #[.int .i64 ((Qh l0_2 x5_2).f0), .int .i64 0, .int .i64 0, .int .i64 0, .int .i64 0, .slice none 0 0, .int .i64 0, .int .i64 0]) ?_ 1 _ rfl; (with_reducible repeat (first | refine Qd ?_ _ | refine Qg ?_ | refine Qb ?_ _)); refine Qy (cs := #[.int .i64 0, .int .i64 0, .int .i64 0, .int .i64 0, .int .i64 0, .slice none 0 0, .int .i64 0, .int .i64 0]) ?_ 0 _ rfl; (with_reducible repeat (first | refine Qd ?_ _ | refine Qg ?_ | refine Qb ?_ _)); exact BK147.out⟩, ⟨by repeat (first | (with_reducible first | exact HB.out | apply Qi | apply Qa | apply Qj | refine Qk ?_ GE143.out | refine Qk ?_ GE147.out) | exact HB.out)⟩⟩
                 ·rw [if_neg c42] at H
                  have c42b0 : decide (6 < ((Qh l0_2 x5_2).f4)) = false := decide_eq_false c42
                  clear c42
                  by_cases c45 : ((Qh l0_2 x5_2).f3) < 0
                  ·rw [if_pos c45] at H
                   have c45b0 : decide (((Qh l0_2 x5_2).f3) < 0) = true := decide_eq_true c45
                   clear c45
                   have H' := Qf.mk H
                   clear H
                   have hnb46 := NB147_143.out
                   have hnc46 := NB143_147.out
                   have hcz47_0 : w18.cell? ⟨gb147, 0, none⟩ = some (.int .i64 0) := (Qe BK147.out 0).trans rfl
                   have hcz47_1 : w18.cell? ⟨gb147, 1, none⟩ = some (.int .i64 0) := (Qe BK147.out 1).trans rfl
                   have hcz47_2 : w18.cell? ⟨gb147, 2, none⟩ = some (.int .i64 0) := (Qe BK147.out 2).trans rfl
                   have hcz47_3 : w18.cell? ⟨gb147, 3, none⟩ = some (.int .i64 0) := (Qe BK147.out 3).trans rfl
                   have hcz47_4 : w18.cell? ⟨gb147, 4, none⟩ = some (.int .i64 0) := (Qe BK147.out 4).trans rfl
                   have hcz47_5 : w18.cell? ⟨gb147, 5, none⟩ = some (.slice none 0 0) := (Qe BK147.out 5).trans rfl
                   have hcz47_6 : w18.cell? ⟨gb147, 6, none⟩ = some (.int .i64 0) := (Qe BK147.out 6).trans rfl
                   have hcz47_7 : w18.cell? ⟨gb147, 7, none⟩ = some (.int .i64 0) := (Qe BK147.out 7).trans rfl
                   have hfz47_0 := Qc BK147.out 0
                   have hfz47_1 := Qc BK147.out 1
                   have hfz47_2 := Qc BK147.out 2
                   have hfz47_3 := Qc BK147.out 3
                   have hfz47_4 := Qc BK147.out 4
                   have hfz47_5 := Qc BK147.out 5
                   have hfz47_6 := Qc BK147.out 6
                   have hfz47_7 := Qc BK147.out 7
                   go_wp2
                   repeat (go_quiet (fail); try go_wp2)
                   go_meet
                   case rel => exact ⟨_, (true), (by first | rfl | (simp; done) | (simp [*]; done)), H', ⟨by have := HK1.out; have := HK2.out; first | omega | exact Nat.le_refl _⟩, ⟨by (with_reducible repeat (first | refine Qd ?_ _ | refine Qg ?_ | refine Qb ?_ _)); refine Qv ?_ NB143_147.out _; (with_reducible repeat (first | refine Qd ?_ _ | refine Qg ?_ | refine Qb ?_ _)); refine Qv ?_ NB143_147.out _; (with_reducible repeat (first | refine Qd ?_ _ | refine Qg ?_ | refine Qb ?_ _)); refine Qv ?_ NB143_147.out _; (with_reducible repeat (first | refine Qd ?_ _ | refine Qg ?_ | refine Qb ?_ _)); refine Qv ?_ NB143_147.out _; (with_reducible repeat (first | refine Qd ?_ _ | refine Qg ?_ | refine Qb ?_ _)); refine Qv ?_ NB143_147.out _; (with_reducible repeat (first | refine Qd ?_ _ | refine Qg ?_ | refine Qb ?_ _)); refine Qv ?_ NB143_147.out _; (with_reducible repeat (first | refine Qd ?_ _ | refine Qg ?_ | refine Qb ?_ _)); refine Qv ?_ NB143_147.out _; (with_reducible repeat (first | refine Qd ?_ _ | refine Qg ?_ | refine Qb ?_ _)); refine Qv ?_ NB143_147.out _; (with_reducible repeat (first | refine Qd ?_ _ | refine Qg ?_ | refine Qb ?_ _)); exact BK143.out⟩, ⟨by (with_reducible repeat (first | refine Qd ?_ _ | refine Qg ?_ | refine Qb ?_ _)); refine Qy (cs := #[.int .i64 ((Qh l0_2 x5_2).f0), .int .i64 ((Qh l0_2 x5_2).f1), .int .i64 ((Qh l0_2 x5_2).f2), .int .i64 ((Qh l0_2 x5_2).f3), .int .i64 ((Qh l0_2 x5_2).f4), .slice A146_5 ((Qh l0_2 x5_2).f5.f0).length c146_5, .int .i64 ((Qh l0_2 x5_2).f5.f1), .int .i64 0]) ?_ 7 _ rfl; (with_reducible repeat (first | refine Qd ?_ _ | refine Qg ?_ | refine Qb ?_ _)); refine Qy (cs := #[.int .i64 ((Qh l0_2 x5_2).f0), .int .i64 ((Qh l0_2 x5_2).f1), .int .i64 ((Qh l0_2 x5_2).f2), .int .i64 ((Qh l0_2 x5_2).f3), .int .i64 ((Qh l0_2 x5_2).f4), .slice A146_5 ((Qh l0_2 x5_2).f5.f0).length c146_5, .int .i64 0, .int .i64 0]) ?_ 6 _ rfl; (with_reducible repeat (first | refine Qd ?_ _ | refine Qg ?_ | refine Qb ?_ _)); refine Qy (cs := #[.int .i64 ((Qh l0_2 x5_2).f0), .int .i64 ((Qh l0_2 x5_2).f1), .int .i64 ((Qh l0_2 x5_2).f2), .int .i64 ((Qh l0_2 x5_2).f3), .int .i64 ((Qh l0_2 x5_2).f4), .slice none 0 0, .int .i64 0, .int .i64 0]) ?_ 5 _ rfl; (with_reducible repeat (first | refine Qd ?_ _ | refine Qg ?_ | refine Qb ?_ _)); refine Qy (cs := #[.int .i64 ((Qh l0_2 x5_2).f0), .int .i64 ((Qh l0_2 x5_2).f1), .int .i64 ((Qh l0_2 x5_2).f2), .int .i64 ((Qh l0_2 x5_2).f3), .int .i64 0, .slice none 0 0, .int .i64 0, .int .i64 0]) ?_ 4 _ rfl; (with_reducible repeat (first | refine Qd ?_ _ | refine Qg ?_ | refine Qb ?_ _)); refine Qy (cs := #[.int .i64 ((Qh l0_2 x5_2).f0), .int .i64 ((Qh l0_2 x5_2).f1), .int .i64 ((Qh l0_2 x5_2).f2), .int .i64 0, .int .i64 0, .slice none 0 0, .int .i64 0, .int .i64 0]) ?_ 3 _ rfl; (with_reducible repeat (first | refine Qd ?_ _ | refine Qg ?_ | refine Qb ?_ _)); refine Qy (cs := #[.int .i64 ((Qh l0_2 x5_2).f0), .int .i64 ((Qh l0_2 x5_2).f1), .int .i64 0, .int .i64 0, .int .i64 0, .slice none 0 0, .int .i64 0, .int .i64 0]) ?_ 2 _ rfl; (with_reducible repeat (first | refine Qd ?_ _ | refine Qg ?_ | refine Qb ?_ _)); refine Qy (cs := #[.int .i64 ((Qh l0_2 x5_2).f0), .int .i64 0, .int .i64 0, .int .i64 0, .int .i64 0, .slice none 0 0, .int .i64 0, .int .i64 0]) ?_ 1 _ rfl; (with_reducible repeat (first | refine Qd ?_ _ | refine Qg ?_ | refine Qb ?_ _)); refine Qy (cs := #[.int .i64 0, .int .i64 0, .int .i64 0, .int .i64 0, .int .i64 0, .slice none 0 0, .int .i64 0, .int .i64 0]) ?_ 0 _ rfl; (with_reducible repeat (first | refine Qd ?_ _ | refine Qg ?_ | refine Qb ?_ _)); exact BK147.out⟩, ⟨by repeat (first | (with_reducible first | exact HB.out | apply Qi | apply Qa | apply Qj | refine Qk ?_ GE143.out | refine Qk ?_ GE147.out) | exact HB.out)⟩⟩
                  ·rw [if_neg c45] at H
                   have c45b0 : decide (((Qh l0_2 x5_2).f3) < 0) = false := decide_eq_false c45
                   clear c45
                   have H' := Qf.mk H
                   clear H
                   have hnb48 := NB147_143.out
                   have hnc48 := NB143_147.out
                   have hcz49_0 : w18.cell? ⟨gb147, 0, none⟩ = some (.int .i64 0) := (Qe BK147.out 0).trans rfl
                   have hcz49_1 : w18.cell? ⟨gb147, 1, none⟩ = some (.int .i64 0) := (Qe BK147.out 1).trans rfl
                   have hcz49_2 : w18.cell? ⟨gb147, 2, none⟩ = some (.int .i64 0) := (Qe BK147.out 2).trans rfl
                   have hcz49_3 : w18.cell? ⟨gb147, 3, none⟩ = some (.int .i64 0) := (Qe BK147.out 3).trans rfl
                   have hcz49_4 : w18.cell? ⟨gb147, 4, none⟩ = some (.int .i64 0) := (Qe BK147.out 4).trans rfl
                   have hcz49_5 : w18.cell? ⟨gb147, 5, none⟩ = some (.slice none 0 0) := (Qe BK147.out 5).trans rfl
                   have hcz49_6 : w18.cell? ⟨gb147, 6, none⟩ = some (.int .i64 0) := (Qe BK147.out 6).trans rfl
                   have hcz49_7 : w18.cell? ⟨gb147, 7, none⟩ = some (.int .i64 0) := (Qe BK147.out 7).trans rfl
                   have hfz49_0 := Qc BK147.out 0
                   have hfz49_1 := Qc BK147.out 1
                   have hfz49_2 := Qc BK147.out 2
                   have hfz49_3 := Qc BK147.out 3
                   have hfz49_4 := Qc BK147.out 4
                   have hfz49_5 := Qc BK147.out 5
                   have hfz49_6 := Qc BK147.out 6
                   have hfz49_7 := Qc BK147.out 7
                   go_wp2
                   repeat (go_quiet (fail); try go_wp2)
                   go_meet
                   case rel => exact ⟨_, (decide (((Qh l0_2 x5_2).f3) > 67108864)), (by first | rfl | (simp; done) | (simp [*]; done)), H', ⟨by have := HK1.out; have := HK2.out; first | omega | exact Nat.le_refl _⟩, ⟨by (with_reducible repeat (first | refine Qd ?_ _ | refine Qg ?_ | refine Qb ?_ _)); refine Qv ?_ NB143_147.out _; (with_reducible repeat (first | refine Qd ?_ _ | refine Qg ?_ | refine Qb ?_ _)); refine Qv ?_ NB143_147.out _; (with_reducible repeat (first | refine Qd ?_ _ | refine Qg ?_ | refine Qb ?_ _)); refine Qv ?_ NB143_147.out _; (with_reducible repeat (first | refine Qd ?_ _ | refine Qg ?_ | refine Qb ?_ _)); refine Qv ?_ NB143_147.out _; (with_reducible repeat (first | refine Qd ?_ _ | refine Qg ?_ | refine Qb ?_ _)); refine Qv ?_ NB143_147.out _; (with_reducible repeat (first | refine Qd ?_ _ | refine Qg ?_ | refine Qb ?_ _)); refine Qv ?_ NB143_147.out _; (with_reducible repeat (first | refine Qd ?_ _ | refine Qg ?_ | refine Qb ?_ _)); refine Qv ?_ NB143_147.out _; (with_reducible repeat (first | refine Qd ?_ _ | refine Qg ?_ | refine Qb ?_ _)); refine Qv ?_ NB143_147.out _; (with_reducible repeat (first | refine Qd ?_ _ | refine Qg ?_ | refine Qb ?_ _)); exact BK143.out⟩, ⟨by (with_reducible repeat (first | refine Qd ?_ _ | refine Qg ?_ | refine Qb ?_ _)); refine Qy (cs := #[.int .i64 ((Qh l0_2 x5_2).f0), .int .i64 ((Qh l0_2 x5_2).f1), .int .i64 ((Qh l0_2 x5_2).f2), .int .i64 ((Qh l0_2 x5_2).f3), .int .i64 ((Qh l0_2 x5_2).f4), .slice A146_5 ((Qh l0_2 x5_2).f5.f0).length c146_5, .int .i64 ((Qh l0_2 x5_2).f5.f1), .int .i64 0]) ?_ 7 _ rfl; (with_reducible repeat (first | refine Qd ?_ _ | refine Qg ?_ | refine Qb ?_ _)); refine Qy (cs := #[.int .i64 ((Qh l0_2 x5_2).f0), .int .i64 ((Qh l0_2 x5_2).f1), .int .i64 ((Qh l0_2 x5_2).f2), .int .i64 ((Qh l0_2 x5_2).f3), .int .i64 ((Qh l0_2 x5_2).f4), .slice A146_5 ((Qh l0_2 x5_2).f5.f0).length c146_5, .int .i64 0, .int .i64 0]) ?_ 6 _ rfl; (with_reducible repeat (first | refine Qd ?_ _ | refine Qg ?_ | refine Qb ?_ _)); refine Qy (cs := #[.int .i64 ((Qh l0_2 x5_2).f0), .int .i64 ((Qh l0_2 x5_2).f1), .int .i64 ((Qh l0_2 x5_2).f2), .int .i64 ((Qh l0_2 x5_2).f3), .int .i64 ((Qh l0_2 x5_2).f4), .slice none 0 0, .int .i64 0, .int .i64 0]) ?_ 5 _ rfl; (with_reducible repeat (first | refine Qd ?_ _ | refine Qg ?_ | refine Qb ?_ _)); refine Qy (cs := #[.int .i64 ((Qh l0_2 x5_2).f0), .int .i64 ((Qh l0_2 x5_2).f1), .int .i64 ((Qh l0_2 x5_2).f2), .int .i64 ((Qh l0_2 x5_2).f3), .int .i64 0, .slice none 0 0, .int .i64 0, .int .i64 0]) ?_ 4 _ rfl; (with_reducible repeat (first | refine Qd ?_ _ | refine Qg ?_ | refine Qb ?_ _)); refine Qy (cs := #[.int .i64 ((Qh l0_2 x5_2).f0), .int .i64 ((Qh l0_2 x5_2).f1), .int .i64 ((Qh l0_2 x5_2).f2), .int .i64 0, .int .i64 0, .slice none 0 0, .int .i64 0, .int .i64 0]) ?_ 3 _ rfl; (with_reducible repeat (first | refine Qd ?_ _ | refine Qg ?_ | refine Qb ?_ _)); refine Qy (cs := #[.int .i64 ((Qh l0_2 x5_2).f0), .int .i64 ((Qh l0_2 x5_2).f1), .int .i64 0, .int .i64 0, .int .i64 0, .slice none 0 0, .int .i64 0, .int .i64 0]) ?_ 2 _ rfl; (with_reducible repeat (first | refine Qd ?_ _ | refine Qg ?_ | refine Qb ?_ _)); refine Qy (cs := #[.int .i64 ((Qh l0_2 x5_2).f0), .int .i64 0, .int .i64 0, .int .i64 0, .int .i64 0, .slice none 0 0, .int .i64 0, .int .i64 0]) ?_ 1 _ rfl; (with_reducible repeat (first | refine Qd ?_ _ | refine Qg ?_ | refine Qb ?_ _)); refine Qy (cs := #[.int .i64 0, .int .i64 0, .int .i64 0, .int .i64 0, .int .i64 0, .slice none 0 0, .int .i64 0, .int .i64 0]) ?_ 0 _ rfl; (with_reducible repeat (first | refine Qd ?_ _ | refine Qg ?_ | refine Qb ?_ _)); exact BK147.out⟩, ⟨by repeat (first | (with_reducible first | exact HB.out | apply Qi | apply Qa | apply Qj | refine Qk ?_ GE143.out | refine Qk ?_ GE147.out) | exact HB.out)⟩⟩
         case rest =>
          clear HC16
          try clear c1
          try clear p1
          try clear q1
          try clear hx1
          try clear c2
          try clear c2b0
          try clear c2b1
          try clear c2b2
          try clear p2
          try clear c3
          try clear c4
          try clear c5
          try clear c5b0
          try clear p6
          try clear c7
          try clear c7b0
          try clear c8
          try clear c8b0
          try clear c9
          try clear c9b0
          try clear c10
          try clear c10b0
          try clear c11
          try clear c11b0
          try clear c14
          try clear c14b0
          try clear p14
          try clear q14
          try clear hx14
          try clear c15
          try clear c15b0
          try clear c19
          try clear c20
          try clear c21
          try clear c21b0
          try clear c22
          try clear c24
          try clear c24b0
          try clear c25
          try clear c27
          try clear c27b0
          try clear c28
          try clear c30
          try clear c30b0
          try clear c31
          try clear c33
          try clear c33b0
          try clear c34
          try clear c36
          try clear c36b0
          try clear c37
          try clear c39
          try clear c39b0
          try clear c40
          try clear c42
          try clear c42b0
          try clear c43
          try clear c45
          try clear c45b0
          try clear c46
          try clear c48
          try clear hcz12_0
          try clear hcz12_1
          try clear hcz12_2
          try clear hcz13_0
          try clear hcz13_1
          try clear hcz13_2
          try clear hcz17_0
          try clear hcz17_1
          try clear hcz17_2
          try clear hcz20_0
          try clear hcz20_1
          try clear hcz20_2
          try clear hcz20_3
          try clear hcz20_4
          try clear hcz20_5
          try clear hcz20_6
          try clear hcz20_7
          try clear hcz23_0
          try clear hcz23_1
          try clear hcz23_2
          try clear hcz23_3
          try clear hcz23_4
          try clear hcz23_5
          try clear hcz23_6
          try clear hcz23_7
          try clear hcz26_0
          try clear hcz26_1
          try clear hcz26_2
          try clear hcz26_3
          try clear hcz26_4
          try clear hcz26_5
          try clear hcz26_6
          try clear hcz26_7
          try clear hcz29_0
          try clear hcz29_1
          try clear hcz29_2
          try clear hcz29_3
          try clear hcz29_4
          try clear hcz29_5
          try clear hcz29_6
          try clear hcz29_7
          try clear hcz32_0
          try clear hcz32_1
          try clear hcz32_2
          try clear hcz32_3
          try clear hcz32_4
          try clear hcz32_5
          try clear hcz32_6
          try clear hcz32_7
          try clear hcz35_0
          try clear hcz35_1
          try clear hcz35_2
          try clear hcz35_3
          try clear hcz35_4
          try clear hcz35_5
          try clear hcz35_6
          try clear hcz35_7
          try clear hcz38_0
          try clear hcz38_1
          try clear hcz38_2
          try clear hcz38_3
          try clear hcz38_4
          try clear hcz38_5
          try clear hcz38_6
          try clear hcz38_7
          try clear hcz41_0
          try clear hcz41_1
          try clear hcz41_2
          try clear hcz41_3
          try clear hcz41_4
          try clear hcz41_5
          try clear hcz41_6
          try clear hcz41_7
          try clear hcz44_0
          try clear hcz44_1
          try clear hcz44_2
          try clear hcz44_3
          try clear hcz44_4
          try clear hcz44_5
          try clear hcz44_6
          try clear hcz44_7
          try clear hcz47_0
          try clear hcz47_1
          try clear hcz47_2
          try clear hcz47_3
          try clear hcz47_4
          try clear hcz47_5
          try clear hcz47_6
          try clear hcz47_7
          try clear hcz49_0
          try clear hcz49_1
          try clear hcz49_2
          try clear hcz49_3
          try clear hcz49_4
          try clear hcz49_5
          try clear hcz49_6
          try clear hcz49_7
          try clear hcz4_0
          try clear hcz4_1
          try clear hcz4_2
          try clear hfz12_0
          try clear hfz12_1
          try clear hfz12_2
          try clear hfz13_0
          try clear hfz13_1
          try clear hfz13_2
          try clear hfz17_0
          try clear hfz17_1
          try clear hfz17_2
          try clear hfz20_0
          try clear hfz20_1
          try clear hfz20_2
          try clear hfz20_3
          try clear hfz20_4
          try clear hfz20_5
          try clear hfz20_6
          try clear hfz20_7
          try clear hfz23_0
          try clear hfz23_1
          try clear hfz23_2
          try clear hfz23_3
          try clear hfz23_4
          try clear hfz23_5
          try clear hfz23_6
          try clear hfz23_7
          try clear hfz26_0
          try clear hfz26_1
          try clear hfz26_2
          try clear hfz26_3
          try clear hfz26_4
          try clear hfz26_5
          try clear hfz26_6
          try clear hfz26_7
          try clear hfz29_0
          try clear hfz29_1
          try clear hfz29_2
          try clear hfz29_3
          try clear hfz29_4
          try clear hfz29_5
          try clear hfz29_6
          try clear hfz29_7
          try clear hfz32_0
          try clear hfz32_1
          try clear hfz32_2
          try clear hfz32_3
          try clear hfz32_4
          try clear hfz32_5
          try clear hfz32_6
          try clear hfz32_7
          try clear hfz35_0
          try clear hfz35_1
          try clear hfz35_2
          try clear hfz35_3
          try clear hfz35_4
          try clear hfz35_5
          try clear hfz35_6
          try clear hfz35_7
          try clear hfz38_0
          try clear hfz38_1
          try clear hfz38_2
          try clear hfz38_3
          try clear hfz38_4
          try clear hfz38_5
          try clear hfz38_6
          try clear hfz38_7
          try clear hfz41_0
          try clear hfz41_1
          try clear hfz41_2
          try clear hfz41_3
          try clear hfz41_4
          try clear hfz41_5
          try clear hfz41_6
          try clear hfz41_7
          try clear hfz44_0
          try clear hfz44_1
          try clear hfz44_2
          try clear hfz44_3
          try clear hfz44_4
          try clear hfz44_5
          try clear hfz44_6
          try clear hfz44_7
          try clear hfz47_0
          try clear hfz47_1
          try clear hfz47_2
          try clear hfz47_3
          try clear hfz47_4
          try clear hfz47_5
          try clear hfz47_6
          try clear hfz47_7
          try clear hfz49_0
          try clear hfz49_1
          try clear hfz49_2
          try clear hfz49_3
          try clear hfz49_4
          try clear hfz49_5
          try clear hfz49_6
          try clear hfz49_7
          try clear hfz4_0
          try clear hfz4_1
          try clear hfz4_2
          try clear hx144_0
          try clear hx145_0
          try clear hx146_0
          try clear hx146_1
          try clear hx146_2
          try clear hx146_3
          try clear hx146_4
          try clear hx146_5
          try clear hx146_6
          try clear hx146_7
          try clear p1
          try clear p144
          try clear p145
          try clear p146
          try clear p2
          try clear p6
          try clear q1
          try clear q144
          try clear q145
          try clear q146
          obtain ⟨kq, x94_15, rfl, HA, HJ15, BK143, BK147, HB⟩ := hcut
          cases kq with
          | zero => exact absurd HA.out (by simp [Qn.j2])
          | succ kj15 =>
           have H := HA.out
           clear HA
           simp only [Qn.j2] at H
           by_cases c50 : x94_15 = true
           ·subst c50
            have H1 : (some 2) = some r := by rw [if_pos rfl] at H; exact H
            clear H
            have H := H1
            clear H1
            obtain rfl := Option.some.inj H
            go_wp2
            repeat (go_quiet (fail); try go_wp2)
            go_ret
            exact ⟨by first | rfl | (simp [Qw, Qx] <;> rfl) | (simp [*, Qw, Qx] <;> rfl), by repeat (first | (with_reducible first | exact HB.out | apply Qi | apply Qa | apply Qj | refine Qk ?_ GE143.out | refine Qk ?_ GE147.out) | exact HB.out)⟩
           ·replace c50 := Bool.eq_false_iff.mpr c50
            subst c50
            have H1 : ((Qq.f kj15 ((Qh l0_2 x5_2).f5.f0) ((Qh l0_2 x5_2).f5.f1) ((Qh l0_2 x5_2).f5.f2)).bind fun t148 => (if t148 = 0 then (Qn.l1 kj15 (l0_0.length : Int) (wrap64 (x5_2 + 1)) l0_0 l0_1 l0_2) else (some t148))) = some r := by rw [if_neg (show ¬ (false = true) by decide)] at H; exact H
            clear H
            have H := H1
            clear H1
            replace H := Option.bind_eq_some_iff.mp H
            obtain ⟨t148, A510, H⟩ := H
            replace H : (if t148 = 0 then (Qn.l1 kj15 (l0_0.length : Int) (wrap64 (x5_2 + 1)) l0_0 l0_1 l0_2) else (some t148)) = some r := H
            have A51 := Qf.mk A510
            clear A510
            by_cases c52 : t148 = 0
            ·rw [if_pos c52] at H
             have c52b0 : (t148 == 0) = true := beq_iff_eq.mpr c52
             have c52b1 : (t148 != 0) = false := bne_eq_false_iff_eq.mpr c52
             clear c52
             have H' := Qf.mk H
             clear H
             have hnb53 := NB147_143.out
             have hnc53 := NB143_147.out
             have hcz54_0 : wc.cell? ⟨gb147, 0, none⟩ = some (.int .i64 ((Qh l0_2 x5_2).f0)) := (Qe BK147.out 0).trans rfl
             have hcz54_1 : wc.cell? ⟨gb147, 1, none⟩ = some (.int .i64 ((Qh l0_2 x5_2).f1)) := (Qe BK147.out 1).trans rfl
             have hcz54_2 : wc.cell? ⟨gb147, 2, none⟩ = some (.int .i64 ((Qh l0_2 x5_2).f2)) := (Qe BK147.out 2).trans rfl
             have hcz54_3 : wc.cell? ⟨gb147, 3, none⟩ = some (.int .i64 ((Qh l0_2 x5_2).f3)) := (Qe BK147.out 3).trans rfl
             have hcz54_4 : wc.cell? ⟨gb147, 4, none⟩ = some (.int .i64 ((Qh l0_2 x5_2).f4)) := (Qe BK147.out 4).trans rfl
             have hcz54_5 : wc.cell? ⟨gb147, 5, none⟩ = some (.slice A146_5 ((Qh l0_2 x5_2).f5.f0).length c146_5) := (Qe BK147.out 5).trans rfl
             have hcz54_6 : wc.cell? ⟨gb147, 6, none⟩ = some (.int .i64 ((Qh l0_2 x5_2).f5.f1)) := (Qe BK147.out 6).trans rfl
             have hcz54_7 : wc.cell? ⟨gb147, 7, none⟩ = some (.int .i64 ((Qh l0_2 x5_2).f5.f2)) := (Qe BK147.out 7).trans rfl
             have hfz54_0 := Qc BK147.out 0
             have hfz54_1 := Qc BK147.out 1
             have hfz54_2 := Qc BK147.out 2
             have hfz54_3 := Qc BK147.out 3
             have hfz54_4 := Qc BK147.out 4
             have hfz54_5 := Qc BK147.out 5
             have hfz54_6 := Qc BK147.out 6
             have hfz54_7 := Qc BK147.out 7
             go_wp2_with (first | (go_at_call 40; (with_reducible refine (Qq.calls kj15 _ _ ((Qh l0_2 x5_2).f5.f0) ((Qh l0_2 x5_2).f5.f1) ((Qh l0_2 x5_2).f5.f2) t148 _ ?side1 ?side2 A51.out).mono ?_); (case side1 => repeat (first | exact (Kd.Qr HR146_5.out HB.out) | (with_reducible refine Kd.QG ?_ _) | (with_reducible refine Kd.QH ?_ _) | (with_reducible refine Kd.QO ?_))); (case side2 => exact HC146_5.out); rintro e w55 ⟨rfl, hb⟩; have n0_ := Qf.mk (QF (g := gb143) (o := .cells #[.slice A0_0 l0_0.length c0_0, .slice A0_1 l0_1.length c0_1, .slice (some ad146) l0_2.length c0_2] 37 (0, 0)) (by (with_reducible repeat (first | refine Qd ?_ _ | refine Qg ?_ | refine Qb ?_ _)); exact BK143.out) hb); have n1_ := Qf.mk (QF (g := gb147) (o := .cells #[.int .i64 ((Qh l0_2 x5_2).f0), .int .i64 ((Qh l0_2 x5_2).f1), .int .i64 ((Qh l0_2 x5_2).f2), .int .i64 ((Qh l0_2 x5_2).f3), .int .i64 ((Qh l0_2 x5_2).f4), .slice A146_5 ((Qh l0_2 x5_2).f5.f0).length c146_5, .int .i64 ((Qh l0_2 x5_2).f5.f1), .int .i64 ((Qh l0_2 x5_2).f5.f2)] 58 (0, 0)) (by (with_reducible repeat (first | refine Qd ?_ _ | refine Qg ?_ | refine Qb ?_ _)); exact BK147.out) hb); have n2_ := Qf.mk (Qo (by repeat (first | (with_reducible first | exact HB.out | apply Qi | apply Qa | apply Qj | refine Qk ?_ GE143.out | refine Qk ?_ GE147.out) | exact HB.out)) hb); clear BK143; clear BK147; clear HB; have BK143 := n0_; have BK147 := n1_; have HB := n2_; clear n0_ n1_ n2_; (try clear hb); (try clear hb2); (try clear hk); (try clear hi)))
             repeat (go_quiet (first | (go_at_call 40; (with_reducible refine (Qq.calls kj15 _ _ ((Qh l0_2 x5_2).f5.f0) ((Qh l0_2 x5_2).f5.f1) ((Qh l0_2 x5_2).f5.f2) t148 _ ?side1 ?side2 A51.out).mono ?_); (case side1 => repeat (first | exact (Kd.Qr HR146_5.out HB.out) | (with_reducible refine Kd.QG ?_ _) | (with_reducible refine Kd.QH ?_ _) | (with_reducible refine Kd.QO ?_))); (case side2 => exact HC146_5.out); rintro e w55 ⟨rfl, hb⟩; have n0_ := Qf.mk (QF (g := gb143) (o := .cells #[.slice A0_0 l0_0.length c0_0, .slice A0_1 l0_1.length c0_1, .slice (some ad146) l0_2.length c0_2] 37 (0, 0)) (by (with_reducible repeat (first | refine Qd ?_ _ | refine Qg ?_ | refine Qb ?_ _)); exact BK143.out) hb); have n1_ := Qf.mk (QF (g := gb147) (o := .cells #[.int .i64 ((Qh l0_2 x5_2).f0), .int .i64 ((Qh l0_2 x5_2).f1), .int .i64 ((Qh l0_2 x5_2).f2), .int .i64 ((Qh l0_2 x5_2).f3), .int .i64 ((Qh l0_2 x5_2).f4), .slice A146_5 ((Qh l0_2 x5_2).f5.f0).length c146_5, .int .i64 ((Qh l0_2 x5_2).f5.f1), .int .i64 ((Qh l0_2 x5_2).f5.f2)] 58 (0, 0)) (by (with_reducible repeat (first | refine Qd ?_ _ | refine Qg ?_ | refine Qb ?_ _)); exact BK147.out) hb); have n2_ := Qf.mk (Qo (by repeat (first | (with_reducible first | exact HB.out | apply Qi | apply Qa | apply Qj | refine Qk ?_ GE143.out | refine Qk ?_ GE147.out) | exact HB.out)) hb); clear BK143; clear BK147; clear HB; have BK143 := n0_; have BK147 := n1_; have HB := n2_; clear n0_ n1_ n2_; (try clear hb); (try clear hb2); (try clear hk); (try clear hi))); try go_wp2_with (first | (go_at_call 40; (with_reducible refine (Qq.calls kj15 _ _ ((Qh l0_2 x5_2).f5.f0) ((Qh l0_2 x5_2).f5.f1) ((Qh l0_2 x5_2).f5.f2) t148 _ ?side1 ?side2 A51.out).mono ?_); (case side1 => repeat (first | exact (Kd.Qr HR146_5.out HB.out) | (with_reducible refine Kd.QG ?_ _) | (with_reducible refine Kd.QH ?_ _) | (with_reducible refine Kd.QO ?_))); (case side2 => exact HC146_5.out); rintro e w55 ⟨rfl, hb⟩; have n0_ := Qf.mk (QF (g := gb143) (o := .cells #[.slice A0_0 l0_0.length c0_0, .slice A0_1 l0_1.length c0_1, .slice (some ad146) l0_2.length c0_2] 37 (0, 0)) (by (with_reducible repeat (first | refine Qd ?_ _ | refine Qg ?_ | refine Qb ?_ _)); exact BK143.out) hb); have n1_ := Qf.mk (QF (g := gb147) (o := .cells #[.int .i64 ((Qh l0_2 x5_2).f0), .int .i64 ((Qh l0_2 x5_2).f1), .int .i64 ((Qh l0_2 x5_2).f2), .int .i64 ((Qh l0_2 x5_2).f3), .int .i64 ((Qh l0_2 x5_2).f4), .slice A146_5 ((Qh l0_2 x5_2).f5.f0).length c146_5, .int .i64 ((Qh l0_2 x5_2).f5.f1), .int .i64 ((Qh l0_2 x5_2).f5.f2)] 58 (0, 0)) (by (with_reducible repeat (first | refine Qd ?_ _ | refine Qg ?_ | refine Qb ?_ _)); exact BK147.out) hb); have n2_ := Qf.mk (Qo (by repeat (first | (with_reducible first | exact HB.out | apply Qi | apply Qa | apply Qj | refine Qk ?_ GE143.out | refine Qk ?_ GE147.out) | exact HB.out)) hb); clear BK143; clear BK147; clear HB; have BK143 := n0_; have BK147 := n1_; have HB := n2_; clear n0_ n1_ n2_; (try clear hb); (try clear hb2); (try clear hk); (try clear hi))))
             go_roundg kj15
             case measure => have := HK1.out; have := HK2.out; have := HJ15.out; omega
             case rel => exact ⟨(wrap64 (x5_2 + 1)), (by first | rfl | (simp; done) | (simp [*]; done)), H', ⟨by have := HK1.out; have := HK2.out; have := HJ15.out; omega⟩, ⟨by (with_reducible repeat (first | refine Qd ?_ _ | refine Qg ?_ | refine Qb ?_ _)); exact BK143.out⟩, ⟨by repeat (first | (with_reducible first | exact HB.out | apply Qi | apply Qa | apply Qj | refine Qk ?_ GE143.out | refine Qk ?_ GE147.out) | exact HB.out)⟩⟩
            ·rw [if_neg c52] at H
             have c52b0 : (t148 == 0) = false := beq_eq_false_iff_ne.mpr c52
             have c52b1 : (t148 != 0) = true := bne_iff_ne.mpr c52
             obtain rfl := Option.some.inj H
             have hnb56 := NB147_143.out
             have hnc56 := NB143_147.out
             have hcz57_0 : wc.cell? ⟨gb147, 0, none⟩ = some (.int .i64 ((Qh l0_2 x5_2).f0)) := (Qe BK147.out 0).trans rfl
             have hcz57_1 : wc.cell? ⟨gb147, 1, none⟩ = some (.int .i64 ((Qh l0_2 x5_2).f1)) := (Qe BK147.out 1).trans rfl
             have hcz57_2 : wc.cell? ⟨gb147, 2, none⟩ = some (.int .i64 ((Qh l0_2 x5_2).f2)) := (Qe BK147.out 2).trans rfl
             have hcz57_3 : wc.cell? ⟨gb147, 3, none⟩ = some (.int .i64 ((Qh l0_2 x5_2).f3)) := (Qe BK147.out 3).trans rfl
             have hcz57_4 : wc.cell? ⟨gb147, 4, none⟩ = some (.int .i64 ((Qh l0_2 x5_2).f4)) := (Qe BK147.out 4).trans rfl
             have hcz57_5 : wc.cell? ⟨gb147, 5, none⟩ = some (.slice A146_5 ((Qh l0_2 x5_2).f5.f0).length c146_5) := (Qe BK147.out 5).trans rfl
             have hcz57_6 : wc.cell? ⟨gb147, 6, none⟩ = some (.int .i64 ((Qh l0_2 x5_2).f5.f1)) := (Qe BK147.out 6).trans rfl
             have hcz57_7 : wc.cell? ⟨gb147, 7, none⟩ = some (.int .i64 ((Qh l0_2 x5_2).f5.f2)) := (Qe BK147.out 7).trans rfl
             have hfz57_0 := Qc BK147.out 0
             have hfz57_1 := Qc BK147.out 1
             have hfz57_2 := Qc BK147.out 2
             have hfz57_3 := Qc BK147.out 3
             have hfz57_4 := Qc BK147.out 4
             have hfz57_5 := Qc BK147.out 5
             have hfz57_6 := Qc BK147.out 6
             have hfz57_7 := Qc BK147.out 7
             go_wp2_with (first | (go_at_call 40; (with_reducible refine (Qq.calls kj15 _ _ ((Qh l0_2 x5_2).f5.f0) ((Qh l0_2 x5_2).f5.f1) ((Qh l0_2 x5_2).f5.f2) t148 _ ?side1 ?side2 A51.out).mono ?_); (case side1 => repeat (first | exact (Kd.Qr HR146_5.out HB.out) | (with_reducible refine Kd.QG ?_ _) | (with_reducible refine Kd.QH ?_ _) | (with_reducible refine Kd.QO ?_))); (case side2 => exact HC146_5.out); rintro e w58 ⟨rfl, hb⟩; have n0_ := Qf.mk (QF (g := gb143) (o := .cells #[.slice A0_0 l0_0.length c0_0, .slice A0_1 l0_1.length c0_1, .slice (some ad146) l0_2.length c0_2] 37 (0, 0)) (by (with_reducible repeat (first | refine Qd ?_ _ | refine Qg ?_ | refine Qb ?_ _)); exact BK143.out) hb); have n1_ := Qf.mk (QF (g := gb147) (o := .cells #[.int .i64 ((Qh l0_2 x5_2).f0), .int .i64 ((Qh l0_2 x5_2).f1), .int .i64 ((Qh l0_2 x5_2).f2), .int .i64 ((Qh l0_2 x5_2).f3), .int .i64 ((Qh l0_2 x5_2).f4), .slice A146_5 ((Qh l0_2 x5_2).f5.f0).length c146_5, .int .i64 ((Qh l0_2 x5_2).f5.f1), .int .i64 ((Qh l0_2 x5_2).f5.f2)] 58 (0, 0)) (by (with_reducible repeat (first | refine Qd ?_ _ | refine Qg ?_ | refine Qb ?_ _)); exact BK147.out) hb); have n2_ := Qf.mk (Qo (by repeat (first | (with_reducible first | exact HB.out | apply Qi | apply Qa | apply Qj | refine Qk ?_ GE143.out | refine Qk ?_ GE147.out) | exact HB.out)) hb); clear BK143; clear BK147; clear HB; have BK143 := n0_; have BK147 := n1_; have HB := n2_; clear n0_ n1_ n2_; (try clear hb); (try clear hb2); (try clear hk); (try clear hi)))
             repeat (go_quiet (first | (go_at_call 40; (with_reducible refine (Qq.calls kj15 _ _ ((Qh l0_2 x5_2).f5.f0) ((Qh l0_2 x5_2).f5.f1) ((Qh l0_2 x5_2).f5.f2) t148 _ ?side1 ?side2 A51.out).mono ?_); (case side1 => repeat (first | exact (Kd.Qr HR146_5.out HB.out) | (with_reducible refine Kd.QG ?_ _) | (with_reducible refine Kd.QH ?_ _) | (with_reducible refine Kd.QO ?_))); (case side2 => exact HC146_5.out); rintro e w58 ⟨rfl, hb⟩; have n0_ := Qf.mk (QF (g := gb143) (o := .cells #[.slice A0_0 l0_0.length c0_0, .slice A0_1 l0_1.length c0_1, .slice (some ad146) l0_2.length c0_2] 37 (0, 0)) (by (with_reducible repeat (first | refine Qd ?_ _ | refine Qg ?_ | refine Qb ?_ _)); exact BK143.out) hb); have n1_ := Qf.mk (QF (g := gb147) (o := .cells #[.int .i64 ((Qh l0_2 x5_2).f0), .int .i64 ((Qh l0_2 x5_2).f1), .int .i64 ((Qh l0_2 x5_2).f2), .int .i64 ((Qh l0_2 x5_2).f3), .int .i64 ((Qh l0_2 x5_2).f4), .slice A146_5 ((Qh l0_2 x5_2).f5.f0).length c146_5, .int .i64 ((Qh l0_2 x5_2).f5.f1), .int .i64 ((Qh l0_2 x5_2).f5.f2)] 58 (0, 0)) (by (with_reducible repeat (first | refine Qd ?_ _ | refine Qg ?_ | refine Qb ?_ _)); exact BK147.out) hb); have n2_ := Qf.mk (Qo (by repeat (first | (with_reducible first | exact HB.out | apply Qi | apply Qa | apply Qj | refine Qk ?_ GE143.out | refine Qk ?_ GE147.out) | exact HB.out)) hb); clear BK143; clear BK147; clear HB; have BK143 := n0_; have BK147 := n1_; have HB := n2_; clear n0_ n1_ n2_; (try clear hb); (try clear hb2); (try clear hk); (try clear hi))); try go_wp2_with (first | (go_at_call 40; (with_reducible refine (Qq.calls kj15 _ _ ((Qh l0_2 x5_2).f5.f0) ((Qh l0_2 x5_2).f5.f1) ((Qh l0_2 x5_2).f5.f2) t148 _ ?side1 ?side2 A51.out).mono ?_); (case side1 => repeat (first | exact (Kd.Qr HR146_5.out HB.out) | (with_reducible refine Kd.QG ?_ _) | (with_reducible refine Kd.QH ?_ _) | (with_reducible refine Kd.QO ?_))); (case side2 => exact HC146_5.out); rintro e w58 ⟨rfl, hb⟩; have n0_ := Qf.mk (QF (g := gb143) (o := .cells #[.slice A0_0 l0_0.length c0_0, .slice A0_1 l0_1.length c0_1, .slice (some ad146) l0_2.length c0_2] 37 (0, 0)) (by (with_reducible repeat (first | refine Qd ?_ _ | refine Qg ?_ | refine Qb ?_ _)); exact BK143.out) hb); have n1_ := Qf.mk (QF (g := gb147) (o := .cells #[.int .i64 ((Qh l0_2 x5_2).f0), .int .i64 ((Qh l0_2 x5_2).f1), .int .i64 ((Qh l0_2 x5_2).f2), .int .i64 ((Qh l0_2 x5_2).f3), .int .i64 ((Qh l0_2 x5_2).f4), .slice A146_5 ((Qh l0_2 x5_2).f5.f0).length c146_5, .int .i64 ((Qh l0_2 x5_2).f5.f1), .int .i64 ((Qh l0_2 x5_2).f5.f2)] 58 (0, 0)) (by (with_reducible repeat (first | refine Qd ?_ _ | refine Qg ?_ | refine Qb ?_ _)); exact BK147.out) hb); have n2_ := Qf.mk (Qo (by repeat (first | (with_reducible first | exact HB.out | apply Qi | apply Qa | apply Qj | refine Qk ?_ GE143.out | refine Qk ?_ GE147.out) | exact HB.out)) hb); clear BK143; clear BK147; clear HB; have BK143 := n0_; have BK147 := n1_; have HB := n2_; clear n0_ n1_ n2_; (try clear hb); (try clear hb2); (try clear hk); (try clear hi))))
             go_ret
             exact ⟨by first | rfl | (simp [Qw, Qx] <;> rfl) | (simp [*, Qw, Qx] <;> rfl), by repeat (first | (with_reducible first | exact HB.out | apply Qi | apply Qa | apply Qj | refine Qk ?_ GE143.out | refine Qk ?_ GE147.out) | exact HB.out)⟩
        ·rw [if_neg c15] at H
         exact absurd H (by simp)
       ·rw [if_neg c14] at H
        have c14b0 : decide (x5_2 < (l0_2.length : Int)) = false := decide_eq_false c14
        clear c14
        obtain rfl := Option.some.inj H
        have hcz59_0 : wr.cell? ⟨gb143, 0, none⟩ = some (.slice A0_0 l0_0.length c0_0) := (Qe BK143.out 0).trans rfl
        have hcz59_1 : wr.cell? ⟨gb143, 1, none⟩ = some (.slice A0_1 l0_1.length c0_1) := (Qe BK143.out 1).trans rfl
        have hcz59_2 : wr.cell? ⟨gb143, 2, none⟩ = some (.slice A0_2 l0_2.length c0_2) := (Qe BK143.out 2).trans rfl
        have hfz59_0 := Qc BK143.out 0
        have hfz59_1 := Qc BK143.out 1
        have hfz59_2 := Qc BK143.out 2
        go_wp2
        repeat (go_quiet (fail); try go_wp2)
        go_ret
        exact ⟨by first | rfl | (simp [Qw, Qx] <;> rfl) | (simp [*, Qw, Qx] <;> rfl), by repeat (first | (with_reducible first | exact HB.out | apply Qi | apply Qa | apply Qj | refine Qk ?_ GE143.out) | exact HB.out)⟩
 ·rw [if_neg c2] at H
  have c2b0 : ((l0_0.length : Int) == (l0_1.length : Int)) = false := beq_eq_false_iff_ne.mpr c2
  have c2b1 : ((l0_0.length : Int) != (l0_1.length : Int)) = true := bne_iff_ne.mpr c2
  have c2b2 : (l0_0.length == l0_1.length) = false := by first | simpa using c2 | (simp at c2 ⊢; omega)
  obtain rfl := Option.some.inj H
  go_enter Try.func20, Try.ntmps20
  go_wp2_with (first | ((with_reducible refine QM (N := 1) rfl ?_); refine QI ?hg (N := 1) ?hd (cs := #[.slice A0_0 l0_0.length c0_0, .slice A0_1 l0_1.length c0_1, .slice A0_2 l0_2.length c0_2]) (t := 37) ?hr ?_; (case hd => rfl); (case hg => rfl); (case hr => first | (go_simp; done) | (go_simp; rfl)); intro gb143 hg w60 hbox hb; have n0_ := Qf.mk (Qo (by repeat (first | (with_reducible first | exact HB.out | apply Qi | apply Qa | apply Qj) | exact HB.out)) hb); have n1_ := Qf.mk (hbox); have n2_ := Qf.mk ((by rw [hg]; exact (Qp (by repeat (first | (with_reducible first | exact HB.out | apply Qi | apply Qa | apply Qj) | exact HB.out))) : w.heap.size ≤ gb143)); have n3_ := Qf.mk ((by rw [hg]; exact (Qp (by repeat (first | (with_reducible first | exact HB.out | apply Qi | apply Qa | apply Qj) | exact HB.out))) : w.heap.size ≤ gb143)); clear HB; have HB := n0_; have BK143 := n1_; have GW143 := n2_; have GE143 := n3_; clear n0_ n1_ n2_ n3_; clear hb hbox hg; have hcz61_0 : w60.cell? ⟨gb143, 0, none⟩ = some (.slice A0_0 l0_0.length c0_0) := (Qe BK143.out 0).trans rfl; have hcz61_1 : w60.cell? ⟨gb143, 1, none⟩ = some (.slice A0_1 l0_1.length c0_1) := (Qe BK143.out 1).trans rfl; have hcz61_2 : w60.cell? ⟨gb143, 2, none⟩ = some (.slice A0_2 l0_2.length c0_2) := (Qe BK143.out 2).trans rfl; have hfz61_0 := Qc BK143.out 0; have hfz61_1 := Qc BK143.out 1; have hfz61_2 := Qc BK143.out 2))
  repeat (go_quiet (first | ((with_reducible refine QM (N := 1) rfl ?_); refine QI ?hg (N := 1) ?hd (cs := #[.slice A0_0 l0_0.length c0_0, .slice A0_1 l0_1.length c0_1, .slice A0_2 l0_2.length c0_2]) (t := 37) ?hr ?_; (case hd => rfl); (case hg => rfl); (case hr => first | (go_simp; done) | (go_simp; rfl)); intro gb143 hg w60 hbox hb; have n0_ := Qf.mk (Qo (by repeat (first | (with_reducible first | exact HB.out | apply Qi | apply Qa | apply Qj) | exact HB.out)) hb); have n1_ := Qf.mk (hbox); have n2_ := Qf.mk ((by rw [hg]; exact (Qp (by repeat (first | (with_reducible first | exact HB.out | apply Qi | apply Qa | apply Qj) | exact HB.out))) : w.heap.size ≤ gb143)); have n3_ := Qf.mk ((by rw [hg]; exact (Qp (by repeat (first | (with_reducible first | exact HB.out | apply Qi | apply Qa | apply Qj) | exact HB.out))) : w.heap.size ≤ gb143)); clear HB; have HB := n0_; have BK143 := n1_; have GW143 := n2_; have GE143 := n3_; clear n0_ n1_ n2_ n3_; clear hb hbox hg; have hcz61_0 : w60.cell? ⟨gb143, 0, none⟩ = some (.slice A0_0 l0_0.length c0_0) := (Qe BK143.out 0).trans rfl; have hcz61_1 : w60.cell? ⟨gb143, 1, none⟩ = some (.slice A0_1 l0_1.length c0_1) := (Qe BK143.out 1).trans rfl; have hcz61_2 : w60.cell? ⟨gb143, 2, none⟩ = some (.slice A0_2 l0_2.length c0_2) := (Qe BK143.out 2).trans rfl; have hfz61_0 := Qc BK143.out 0; have hfz61_1 := Qc BK143.out 1; have hfz61_2 := Qc BK143.out 2)); try go_wp2_with (first | ((with_reducible refine QM (N := 1) rfl ?_); refine QI ?hg (N := 1) ?hd (cs := #[.slice A0_0 l0_0.length c0_0, .slice A0_1 l0_1.length c0_1, .slice A0_2 l0_2.length c0_2]) (t := 37) ?hr ?_; (case hd => rfl); (case hg => rfl); (case hr => first | (go_simp; done) | (go_simp; rfl)); intro gb143 hg w60 hbox hb; have n0_ := Qf.mk (Qo (by repeat (first | (with_reducible first | exact HB.out | apply Qi | apply Qa | apply Qj) | exact HB.out)) hb); have n1_ := Qf.mk (hbox); have n2_ := Qf.mk ((by rw [hg]; exact (Qp (by repeat (first | (with_reducible first | exact HB.out | apply Qi | apply Qa | apply Qj) | exact HB.out))) : w.heap.size ≤ gb143)); have n3_ := Qf.mk ((by rw [hg]; exact (Qp (by repeat (first | (with_reducible first | exact HB.out | apply Qi | apply Qa | apply Qj) | exact HB.out))) : w.heap.size ≤ gb143)); clear HB; have HB := n0_; have BK143 := n1_; have GW143 := n2_; have GE143 := n3_; clear n0_ n1_ n2_ n3_; clear hb hbox hg; have hcz61_0 : w60.cell? ⟨gb143, 0, none⟩ = some (.slice A0_0 l0_0.length c0_0) := (Qe BK143.out 0).trans rfl; have hcz61_1 : w60.cell? ⟨gb143, 1, none⟩ = some (.slice A0_1 l0_1.length c0_1) := (Qe BK143.out 1).trans rfl; have hcz61_2 : w60.cell? ⟨gb143, 2, none⟩ = some (.slice A0_2 l0_2.length c0_2) := (Qe BK143.out 2).trans rfl; have hfz61_0 := Qc BK143.out 0; have hfz61_1 := Qc BK143.out 1; have hfz61_2 := Qc BK143.out 2)))
  go_ret
  exact ⟨by first | rfl | (simp [Qw, Qx] <;> rfl) | (simp [*, Qw, Qx] <;> rfl), by repeat (first | (with_reducible first | exact HB.out | apply Qi | apply Qa | apply Qj | refine Qk ?_ GE143.out) | exact HB.out)⟩

end Go.Proofs.Ytbkfjmpnbalkaaa.QTurnsPieces
