-- Written by a program of this session (wip/ext.py) with the kit's print; Lean checks it.
import Derived.Test.YtbkfjmpnbalkaaaQTurnsPiecesx0
namespace Go.Proofs.Ytbkfjmpnbalkaaa.QTurnsPieces
open Go.RowKit Go.Proofs.YtbkfjmpnbalkaaaW.PrintWords Go.Proofs.YtbkfjmpnbalkaaaW.PrintLast Go.Proofs.YtbkfjmpnbalkaaaW.PrintMore
attribute [local go_sem] max2_int min2_int max_two min_two max_three min_three max_four min_four   -- for this text's walks alone
set_option linter.unusedVariables false
set_option linter.unusedSimpArgs false

/-! ### Qq: function 40 -/
mutual
def Qq.l0 : Nat → Int → List (S120) → Int → Int → Option (Int)
 | 0, _, _, _, _ => none
 | k + 1, x3, x140000, x140001, x140002 => if x3 < (x140000.length : Int) then (if 0 ≤ x3 then (if ((QU x140000 x3).f0) < 0 then (Qq.j1 k x3 true x140000 x140001 x140002 ((QU x140000 x3).f0) ((QU x140000 x3).f1)) else (if ((QU x140000 x3).f1) ≤ ((QU x140000 x3).f0) then (Qq.j1 k x3 true x140000 x140001 x140002 ((QU x140000 x3).f0) ((QU x140000 x3).f1)) else (Qq.j1 k x3 (decide (((QU x140000 x3).f1) > 1440)) x140000 x140001 x140002 ((QU x140000 x3).f0) ((QU x140000 x3).f1)))) else (none)) else (if x140002 < 0 then (some 19) else (if x140002 = 0 then (if x140001 = 0 then (if x140002 > 0 then (if x140001 < 0 then (some 19) else (if x140001 > 1439 then (some 19) else (some 0))) else (some 0)) else (some 19)) else (if x140002 > 0 then (if x140001 < 0 then (some 19) else (if x140001 > 1439 then (some 19) else (some 0))) else (some 0))))
def Qq.j1 : Nat → Int → Bool → List (S120) → Int → Int → Int → Int → Option (Int)
 | 0, _, _, _, _, _, _, _ => none
 | k + 1, x3, x35, x140000, x140001, x140002, x142000, x142001 => if x35 = true then (some 2) else (if x3 > 0 then (if 0 ≤ (wrap64 (x3 - 1)) then (if (wrap64 (x3 - 1)) < (x140000.length : Int) then (if x142000 < ((QU x140000 (wrap64 (x3 - 1))).f1) then (some 6) else (Qq.l0 k (wrap64 (x3 + 1)) x140000 x140001 x140002)) else (none)) else (none)) else (Qq.l0 k (wrap64 (x3 + 1)) x140000 x140001 x140002))
end
def Qq.f (k : Nat) (l0_0 : List (S120)) (a0_1 : Int) (a0_2 : Int) : Option (Int) := if (l0_0.length : Int) > 8 then (some 5) else (Qq.l0 k 0 l0_0 a0_1 a0_2)
theorem Qq.mono_l : ∀ k, (∀ y0 y1 y2 y3, LeO (Qq.l0 k y0 y1 y2 y3) (Qq.l0 (k + 1) y0 y1 y2 y3)) ∧ (∀ y0 y1 y2 y3 y4 y5 y6, LeO (Qq.j1 k y0 y1 y2 y3 y4 y5 y6) (Qq.j1 (k + 1) y0 y1 y2 y3 y4 y5 y6))
 | 0 => ⟨fun _ _ _ _ r h => by simp [Qq.l0] at h, fun _ _ _ _ _ _ _ r h => by simp [Qq.j1] at h⟩
 | k + 1 => by
  obtain ⟨ih0, ih1⟩ := Qq.mono_l k
  refine ⟨?_, ?_⟩
  ·intro y0 y1 y2 y3
   unfold Qq.l0
   repeat' first
   | (with_reducible exact ih0 _ _ _ _)
   | (with_reducible exact ih1 _ _ _ _ _ _ _)
   | (with_reducible exact LeO.refl _)
   | (with_reducible exact LeO.none _)
   | (with_reducible refine LeO.ite ?_ ?_)
   | (with_reducible refine LeO.bind ?_ (fun _ => ?_))
   | exact ih0 _ _ _ _
   | exact ih1 _ _ _ _ _ _ _
   | exact LeO.none _
   | refine LeO.ite ?_ ?_
   | refine LeO.bind ?_ (fun _ => ?_)
  ·intro y0 y1 y2 y3 y4 y5 y6
   unfold Qq.j1
   repeat' first
   | (with_reducible exact ih0 _ _ _ _)
   | (with_reducible exact ih1 _ _ _ _ _ _ _)
   | (with_reducible exact LeO.refl _)
   | (with_reducible exact LeO.none _)
   | (with_reducible refine LeO.ite ?_ ?_)
   | (with_reducible refine LeO.bind ?_ (fun _ => ?_))
   | exact ih0 _ _ _ _
   | exact ih1 _ _ _ _ _ _ _
   | exact LeO.none _
   | refine LeO.ite ?_ ?_
   | refine LeO.bind ?_ (fun _ => ?_)
theorem Qq.mono : ∀ a0 a1 a2 k, LeO (Qq.f k a0 a1 a2) (Qq.f (k + 1) a0 a1 a2) := by
 intro a0 a1 a2 k
 obtain ⟨ih0, ih1⟩ := Qq.mono_l k
 unfold Qq.f
 repeat' first
   | (with_reducible exact ih0 _ _ _ _)
   | (with_reducible exact ih1 _ _ _ _ _ _ _)
   | (with_reducible exact LeO.refl _)
   | (with_reducible exact LeO.none _)
   | (with_reducible refine LeO.ite ?_ ?_)
   | (with_reducible refine LeO.bind ?_ (fun _ => ?_))
   | exact ih0 _ _ _ _
   | exact ih1 _ _ _ _ _ _ _
   | exact LeO.none _
   | refine LeO.ite ?_ ?_
   | refine LeO.bind ?_ (fun _ => ?_)
set_option maxHeartbeats 8000000 in
set_option maxRecDepth 100000 in
theorem Qq.calls (k : Nat) (A0_0 : Option Addr) (c0_0 : Nat) (l0_0 : List (S120)) (a0_1 : Int) (a0_2 : Int) (r : Int) (w : World) (hr0_0 : Kd.C k120 w A0_0 l0_0.length l0_0) (hc0_0 : l0_0.length ≤ c0_0) (h : Qq.f k l0_0 a0_1 a0_2 = some r) :
  Calls Try.prog 40 #[.agg #[.slice A0_0 l0_0.length c0_0, .int .i64 a0_1, .int .i64 a0_2]] w fun e w' => e = .returned (.int .i64 r) ∧ Below w.heap.size w w' := by
 have hu56 := Try.underlying56
 have hu120 := Try.underlying120
 have HR0_0 := Qf.mk hr0_0
 have HC0_0 := Qf.mk hc0_0
 clear hr0_0 hc0_0
 have HB := Qf.mk (Below.refl w.heap.size w)
 have H : (if (l0_0.length : Int) > 8 then (some 5) else (Qq.l0 k 0 l0_0 a0_1 a0_2)) = some r := h
 clear h
 by_cases c2 : (l0_0.length : Int) > 8
 ·rw [if_pos c2] at H
  have c2b0 : decide (8 < (l0_0.length : Int)) = true := decide_eq_true c2
  have c2b1 : decide (8 < l0_0.length) = true := decide_eq_true (by omega)
  clear c2
  obtain rfl := Option.some.inj H
  go_enter Try.func40, Try.ntmps40
  go_wp2_with (first | ((with_reducible refine QM (N := 1) rfl ?_); refine QI ?hg (N := 1) ?hd (cs := #[.slice A0_0 l0_0.length c0_0, .int .i64 a0_1, .int .i64 a0_2]) (t := 56) ?hr ?_; (case hd => rfl); (case hg => rfl); (case hr => first | (go_simp; done) | (go_simp; rfl)); intro gb139 hg w3 hbox hb; have n0_ := Qf.mk (Qo (by repeat (first | (with_reducible first | exact HB.out | apply Qi | apply Qa | apply Qj) | exact HB.out)) hb); have n1_ := Qf.mk (hbox); have n2_ := Qf.mk ((by rw [hg]; exact (Qp (by repeat (first | (with_reducible first | exact HB.out | apply Qi | apply Qa | apply Qj) | exact HB.out))) : w.heap.size ≤ gb139)); have n3_ := Qf.mk ((by rw [hg]; exact (Qp (by repeat (first | (with_reducible first | exact HB.out | apply Qi | apply Qa | apply Qj) | exact HB.out))) : w.heap.size ≤ gb139)); clear HB; have HB := n0_; have BK139 := n1_; have GW139 := n2_; have GE139 := n3_; clear n0_ n1_ n2_ n3_; clear hb hbox hg; have hcz4_0 : w3.cell? ⟨gb139, 0, none⟩ = some (.slice A0_0 l0_0.length c0_0) := (Qe BK139.out 0).trans rfl; have hcz4_1 : w3.cell? ⟨gb139, 1, none⟩ = some (.int .i64 a0_1) := (Qe BK139.out 1).trans rfl; have hcz4_2 : w3.cell? ⟨gb139, 2, none⟩ = some (.int .i64 a0_2) := (Qe BK139.out 2).trans rfl; have hfz4_0 := Qc BK139.out 0; have hfz4_1 := Qc BK139.out 1; have hfz4_2 := Qc BK139.out 2))
  repeat (go_quiet (first | ((with_reducible refine QM (N := 1) rfl ?_); refine QI ?hg (N := 1) ?hd (cs := #[.slice A0_0 l0_0.length c0_0, .int .i64 a0_1, .int .i64 a0_2]) (t := 56) ?hr ?_; (case hd => rfl); (case hg => rfl); (case hr => first | (go_simp; done) | (go_simp; rfl)); intro gb139 hg w3 hbox hb; have n0_ := Qf.mk (Qo (by repeat (first | (with_reducible first | exact HB.out | apply Qi | apply Qa | apply Qj) | exact HB.out)) hb); have n1_ := Qf.mk (hbox); have n2_ := Qf.mk ((by rw [hg]; exact (Qp (by repeat (first | (with_reducible first | exact HB.out | apply Qi | apply Qa | apply Qj) | exact HB.out))) : w.heap.size ≤ gb139)); have n3_ := Qf.mk ((by rw [hg]; exact (Qp (by repeat (first | (with_reducible first | exact HB.out | apply Qi | apply Qa | apply Qj) | exact HB.out))) : w.heap.size ≤ gb139)); clear HB; have HB := n0_; have BK139 := n1_; have GW139 := n2_; have GE139 := n3_; clear n0_ n1_ n2_ n3_; clear hb hbox hg; have hcz4_0 : w3.cell? ⟨gb139, 0, none⟩ = some (.slice A0_0 l0_0.length c0_0) := (Qe BK139.out 0).trans rfl; have hcz4_1 : w3.cell? ⟨gb139, 1, none⟩ = some (.int .i64 a0_1) := (Qe BK139.out 1).trans rfl; have hcz4_2 : w3.cell? ⟨gb139, 2, none⟩ = some (.int .i64 a0_2) := (Qe BK139.out 2).trans rfl; have hfz4_0 := Qc BK139.out 0; have hfz4_1 := Qc BK139.out 1; have hfz4_2 := Qc BK139.out 2)); try go_wp2_with (first | ((with_reducible refine QM (N := 1) rfl ?_); refine QI ?hg (N := 1) ?hd (cs := #[.slice A0_0 l0_0.length c0_0, .int .i64 a0_1, .int .i64 a0_2]) (t := 56) ?hr ?_; (case hd => rfl); (case hg => rfl); (case hr => first | (go_simp; done) | (go_simp; rfl)); intro gb139 hg w3 hbox hb; have n0_ := Qf.mk (Qo (by repeat (first | (with_reducible first | exact HB.out | apply Qi | apply Qa | apply Qj) | exact HB.out)) hb); have n1_ := Qf.mk (hbox); have n2_ := Qf.mk ((by rw [hg]; exact (Qp (by repeat (first | (with_reducible first | exact HB.out | apply Qi | apply Qa | apply Qj) | exact HB.out))) : w.heap.size ≤ gb139)); have n3_ := Qf.mk ((by rw [hg]; exact (Qp (by repeat (first | (with_reducible first | exact HB.out | apply Qi | apply Qa | apply Qj) | exact HB.out))) : w.heap.size ≤ gb139)); clear HB; have HB := n0_; have BK139 := n1_; have GW139 := n2_; have GE139 := n3_; clear n0_ n1_ n2_ n3_; clear hb hbox hg; have hcz4_0 : w3.cell? ⟨gb139, 0, none⟩ = some (.slice A0_0 l0_0.length c0_0) := (Qe BK139.out 0).trans rfl; have hcz4_1 : w3.cell? ⟨gb139, 1, none⟩ = some (.int .i64 a0_1) := (Qe BK139.out 1).trans rfl; have hcz4_2 : w3.cell? ⟨gb139, 2, none⟩ = some (.int .i64 a0_2) := (Qe BK139.out 2).trans rfl; have hfz4_0 := Qc BK139.out 0; have hfz4_1 := Qc BK139.out 1; have hfz4_2 := Qc BK139.out 2)))
  go_ret
  exact ⟨by first | rfl | (simp [Qw, Qx] <;> rfl) | (simp [*, Qw, Qx] <;> rfl), by repeat (first | (with_reducible first | exact HB.out | apply Qi | apply Qa | apply Qj | refine Qk ?_ GE139.out) | exact HB.out)⟩
 ·rw [if_neg c2] at H
  have c2b0 : decide (8 < (l0_0.length : Int)) = false := decide_eq_false c2
  have c2b1 : decide (8 < l0_0.length) = false := decide_eq_false (by omega)
  clear c2
  have H' := Qf.mk H
  clear H
  go_enter Try.func40, Try.ntmps40
  go_wp2_with (first | ((with_reducible refine QM (N := 1) rfl ?_); refine QI ?hg (N := 1) ?hd (cs := #[.slice A0_0 l0_0.length c0_0, .int .i64 a0_1, .int .i64 a0_2]) (t := 56) ?hr ?_; (case hd => rfl); (case hg => rfl); (case hr => first | (go_simp; done) | (go_simp; rfl)); intro gb139 hg w5 hbox hb; have n0_ := Qf.mk (Qo (by repeat (first | (with_reducible first | exact HB.out | apply Qi | apply Qa | apply Qj) | exact HB.out)) hb); have n1_ := Qf.mk (hbox); have n2_ := Qf.mk ((by rw [hg]; exact (Qp (by repeat (first | (with_reducible first | exact HB.out | apply Qi | apply Qa | apply Qj) | exact HB.out))) : w.heap.size ≤ gb139)); have n3_ := Qf.mk ((by rw [hg]; exact (Qp (by repeat (first | (with_reducible first | exact HB.out | apply Qi | apply Qa | apply Qj) | exact HB.out))) : w.heap.size ≤ gb139)); clear HB; have HB := n0_; have BK139 := n1_; have GW139 := n2_; have GE139 := n3_; clear n0_ n1_ n2_ n3_; clear hb hbox hg; have hcz6_0 : w5.cell? ⟨gb139, 0, none⟩ = some (.slice A0_0 l0_0.length c0_0) := (Qe BK139.out 0).trans rfl; have hcz6_1 : w5.cell? ⟨gb139, 1, none⟩ = some (.int .i64 a0_1) := (Qe BK139.out 1).trans rfl; have hcz6_2 : w5.cell? ⟨gb139, 2, none⟩ = some (.int .i64 a0_2) := (Qe BK139.out 2).trans rfl; have hfz6_0 := Qc BK139.out 0; have hfz6_1 := Qc BK139.out 1; have hfz6_2 := Qc BK139.out 2))
  repeat (go_quiet (first | ((with_reducible refine QM (N := 1) rfl ?_); refine QI ?hg (N := 1) ?hd (cs := #[.slice A0_0 l0_0.length c0_0, .int .i64 a0_1, .int .i64 a0_2]) (t := 56) ?hr ?_; (case hd => rfl); (case hg => rfl); (case hr => first | (go_simp; done) | (go_simp; rfl)); intro gb139 hg w5 hbox hb; have n0_ := Qf.mk (Qo (by repeat (first | (with_reducible first | exact HB.out | apply Qi | apply Qa | apply Qj) | exact HB.out)) hb); have n1_ := Qf.mk (hbox); have n2_ := Qf.mk ((by rw [hg]; exact (Qp (by repeat (first | (with_reducible first | exact HB.out | apply Qi | apply Qa | apply Qj) | exact HB.out))) : w.heap.size ≤ gb139)); have n3_ := Qf.mk ((by rw [hg]; exact (Qp (by repeat (first | (with_reducible first | exact HB.out | apply Qi | apply Qa | apply Qj) | exact HB.out))) : w.heap.size ≤ gb139)); clear HB; have HB := n0_; have BK139 := n1_; have GW139 := n2_; have GE139 := n3_; clear n0_ n1_ n2_ n3_; clear hb hbox hg; have hcz6_0 : w5.cell? ⟨gb139, 0, none⟩ = some (.slice A0_0 l0_0.length c0_0) := (Qe BK139.out 0).trans rfl; have hcz6_1 : w5.cell? ⟨gb139, 1, none⟩ = some (.int .i64 a0_1) := (Qe BK139.out 1).trans rfl; have hcz6_2 : w5.cell? ⟨gb139, 2, none⟩ = some (.int .i64 a0_2) := (Qe BK139.out 2).trans rfl; have hfz6_0 := Qc BK139.out 0; have hfz6_1 := Qc BK139.out 1; have hfz6_2 := Qc BK139.out 2)); try go_wp2_with (first | ((with_reducible refine QM (N := 1) rfl ?_); refine QI ?hg (N := 1) ?hd (cs := #[.slice A0_0 l0_0.length c0_0, .int .i64 a0_1, .int .i64 a0_2]) (t := 56) ?hr ?_; (case hd => rfl); (case hg => rfl); (case hr => first | (go_simp; done) | (go_simp; rfl)); intro gb139 hg w5 hbox hb; have n0_ := Qf.mk (Qo (by repeat (first | (with_reducible first | exact HB.out | apply Qi | apply Qa | apply Qj) | exact HB.out)) hb); have n1_ := Qf.mk (hbox); have n2_ := Qf.mk ((by rw [hg]; exact (Qp (by repeat (first | (with_reducible first | exact HB.out | apply Qi | apply Qa | apply Qj) | exact HB.out))) : w.heap.size ≤ gb139)); have n3_ := Qf.mk ((by rw [hg]; exact (Qp (by repeat (first | (with_reducible first | exact HB.out | apply Qi | apply Qa | apply Qj) | exact HB.out))) : w.heap.size ≤ gb139)); clear HB; have HB := n0_; have BK139 := n1_; have GW139 := n2_; have GE139 := n3_; clear n0_ n1_ n2_ n3_; clear hb hbox hg; have hcz6_0 : w5.cell? ⟨gb139, 0, none⟩ = some (.slice A0_0 l0_0.length c0_0) := (Qe BK139.out 0).trans rfl; have hcz6_1 : w5.cell? ⟨gb139, 1, none⟩ = some (.int .i64 a0_1) := (Qe BK139.out 1).trans rfl; have hcz6_2 : w5.cell? ⟨gb139, 2, none⟩ = some (.int .i64 a0_2) := (Qe BK139.out 2).trans rfl; have hfz6_0 := Qc BK139.out 0; have hfz6_1 := Qc BK139.out 1; have hfz6_2 := Qc BK139.out 2)))
  go_loopg [3] k (fun kq v3 w' => ∃ (x3_1 : Int), v3 = .int .i64 x3_1 ∧ Qf (Qq.l0 kq x3_1 l0_0 a0_1 a0_2 = some r) ∧ Qf (kq ≤ k) ∧ Qf (w'.heap[gb139]? = some (.cells #[(.slice A0_0 l0_0.length c0_0), .int .i64 a0_1, .int .i64 a0_2] 56 (0, 0))) ∧ Qf (Below w.heap.size w w'))
  case atStart => exact ⟨(0), (by first | rfl | (simp; done) | (simp [*]; done)), H', ⟨Nat.le_refl _⟩, ⟨by (with_reducible repeat (first | refine Qd ?_ _ | refine Qg ?_ | refine Qb ?_ _)); exact BK139.out⟩, ⟨by repeat (first | (with_reducible first | exact HB.out | apply Qi | apply Qa | apply Qj | refine Qk ?_ GE139.out) | exact HB.out)⟩⟩
  case round =>
   clear H'
   try clear c2
   try clear c2b0
   try clear c2b1
   try clear p2
   try clear c4
   try clear hcz4_0
   try clear hcz4_1
   try clear hcz4_2
   try clear hcz6_0
   try clear hcz6_1
   try clear hcz6_2
   try clear hfz4_0
   try clear hfz4_1
   try clear hfz4_2
   try clear hfz6_0
   try clear hfz6_1
   try clear hfz6_2
   obtain ⟨x3_1, rfl, HA, HK1, BK139, HB⟩ := hrel
   cases gk with
   | zero => exact absurd HA.out (by simp [Qq.l0])
   | succ k1 =>
    have H := HA.out
    clear HA
    simp only [Qq.l0] at H
    by_cases c7 : x3_1 < (l0_0.length : Int)
    ·rw [if_pos c7] at H
     have c7b0 : decide (x3_1 < (l0_0.length : Int)) = true := decide_eq_true c7
     clear c7
     by_cases c8 : 0 ≤ x3_1
     ·rw [if_pos c8] at H
      have c8b0 : decide (0 ≤ x3_1) = true := decide_eq_true c8
      clear c8
      have HC9 := Qf.mk H
      clear H
      have hcz10_0 : wr.cell? ⟨gb139, 0, none⟩ = some (.slice A0_0 l0_0.length c0_0) := (Qe BK139.out 0).trans rfl
      have hcz10_1 : wr.cell? ⟨gb139, 1, none⟩ = some (.int .i64 a0_1) := (Qe BK139.out 1).trans rfl
      have hcz10_2 : wr.cell? ⟨gb139, 2, none⟩ = some (.int .i64 a0_2) := (Qe BK139.out 2).trans rfl
      have hfz10_0 := Qc BK139.out 0
      have hfz10_1 := Qc BK139.out 1
      have hfz10_2 := Qc BK139.out 2
      have p140 : 0 ≤ (x3_1 : Int) := of_decide_eq_true (by first | (with_reducible assumption) | assumption)
      have q140 : x3_1 < (l0_0.length : Int) := of_decide_eq_true (by first | (with_reducible assumption) | assumption)
      obtain ⟨ad140, e140, hx140_0, hx140_1⟩ := at_T120 HR0_0.out x3_1 p140 q140
      cases e140
      replace hx140_0 := (HB.out.cell (World.block_lt_of_cell? w _ hx140_0)).trans hx140_0
      replace hx140_1 := (HB.out.cell (World.block_lt_of_cell? w _ hx140_1)).trans hx140_1
      replace p140 := eq_true p140
      replace q140 := eq_true q140
      go_upto_region 7 with (first | ((with_reducible refine QM (N := 4) rfl ?_); refine QI ?hg (N := 4) ?hd (cs := #[.int .i64 0, .int .i64 0]) (t := 120) ?hr ?_; (case hd => rfl); (case hg => rfl); (case hr => first | (go_simp; done) | (go_simp; rfl)); intro gb141 hg w11 hbox hb; have n0_ := Qf.mk (QF (g := gb139) (o := .cells #[.slice (some ad140) l0_0.length c0_0, .int .i64 a0_1, .int .i64 a0_2] 56 (0, 0)) (by (with_reducible repeat (first | refine Qd ?_ _ | refine Qg ?_ | refine Qb ?_ _)); exact BK139.out) hb); have n1_ := Qf.mk (Qo (by repeat (first | (with_reducible first | exact HB.out | apply Qi | apply Qa | apply Qj | refine Qk ?_ GE139.out) | exact HB.out)) hb); have n2_ := Qf.mk (hbox); have n3_ := Qf.mk ((by rw [hg]; exact (Qp (by repeat (first | (with_reducible first | exact HB.out | apply Qi | apply Qa | apply Qj | refine Qk ?_ GE139.out) | exact HB.out))) : w.heap.size ≤ gb141)); have n4_ := Qf.mk ((by rw [hg]; exact (Qp (by repeat (first | (with_reducible first | exact HB.out | apply Qi | apply Qa | apply Qj | refine Qk ?_ GE139.out) | exact HB.out))) : w.heap.size ≤ gb141)); have n5_ := Qf.mk ((by rw [hg]; exact Nat.ne_of_lt (QR (g := gb139) (o := .cells #[.slice (some ad140) l0_0.length c0_0, .int .i64 a0_1, .int .i64 a0_2] 56 (0, 0)) (by (with_reducible repeat (first | refine Qd ?_ _ | refine Qg ?_ | refine Qb ?_ _)); exact BK139.out)) : gb139 ≠ gb141)); have n6_ := Qf.mk ((by rw [hg]; exact Nat.ne_of_gt (QR (g := gb139) (o := .cells #[.slice (some ad140) l0_0.length c0_0, .int .i64 a0_1, .int .i64 a0_2] 56 (0, 0)) (by (with_reducible repeat (first | refine Qd ?_ _ | refine Qg ?_ | refine Qb ?_ _)); exact BK139.out)) : gb141 ≠ gb139)); clear BK139; clear HB; have BK139 := n0_; have HB := n1_; have BK141 := n2_; have GW141 := n3_; have GE141 := n4_; have NB139_141 := n5_; have NB141_139 := n6_; clear n0_ n1_ n2_ n3_ n4_ n5_ n6_; clear hb hbox hg; have hnb12 := NB141_139.out; have hnc12 := NB139_141.out; have hcz13_0 : w11.cell? ⟨gb141, 0, none⟩ = some (.int .i64 0) := (Qe BK141.out 0).trans rfl; have hcz13_1 : w11.cell? ⟨gb141, 1, none⟩ = some (.int .i64 0) := (Qe BK141.out 1).trans rfl; have hfz13_0 := Qc BK141.out 0; have hfz13_1 := Qc BK141.out 1))
      repeat (go_quiet (first | ((with_reducible refine QM (N := 4) rfl ?_); refine QI ?hg (N := 4) ?hd (cs := #[.int .i64 0, .int .i64 0]) (t := 120) ?hr ?_; (case hd => rfl); (case hg => rfl); (case hr => first | (go_simp; done) | (go_simp; rfl)); intro gb141 hg w11 hbox hb; have n0_ := Qf.mk (QF (g := gb139) (o := .cells #[.slice (some ad140) l0_0.length c0_0, .int .i64 a0_1, .int .i64 a0_2] 56 (0, 0)) (by (with_reducible repeat (first | refine Qd ?_ _ | refine Qg ?_ | refine Qb ?_ _)); exact BK139.out) hb); have n1_ := Qf.mk (Qo (by repeat (first | (with_reducible first | exact HB.out | apply Qi | apply Qa | apply Qj | refine Qk ?_ GE139.out) | exact HB.out)) hb); have n2_ := Qf.mk (hbox); have n3_ := Qf.mk ((by rw [hg]; exact (Qp (by repeat (first | (with_reducible first | exact HB.out | apply Qi | apply Qa | apply Qj | refine Qk ?_ GE139.out) | exact HB.out))) : w.heap.size ≤ gb141)); have n4_ := Qf.mk ((by rw [hg]; exact (Qp (by repeat (first | (with_reducible first | exact HB.out | apply Qi | apply Qa | apply Qj | refine Qk ?_ GE139.out) | exact HB.out))) : w.heap.size ≤ gb141)); have n5_ := Qf.mk ((by rw [hg]; exact Nat.ne_of_lt (QR (g := gb139) (o := .cells #[.slice (some ad140) l0_0.length c0_0, .int .i64 a0_1, .int .i64 a0_2] 56 (0, 0)) (by (with_reducible repeat (first | refine Qd ?_ _ | refine Qg ?_ | refine Qb ?_ _)); exact BK139.out)) : gb139 ≠ gb141)); have n6_ := Qf.mk ((by rw [hg]; exact Nat.ne_of_gt (QR (g := gb139) (o := .cells #[.slice (some ad140) l0_0.length c0_0, .int .i64 a0_1, .int .i64 a0_2] 56 (0, 0)) (by (with_reducible repeat (first | refine Qd ?_ _ | refine Qg ?_ | refine Qb ?_ _)); exact BK139.out)) : gb141 ≠ gb139)); clear BK139; clear HB; have BK139 := n0_; have HB := n1_; have BK141 := n2_; have GW141 := n3_; have GE141 := n4_; have NB139_141 := n5_; have NB141_139 := n6_; clear n0_ n1_ n2_ n3_ n4_ n5_ n6_; clear hb hbox hg; have hnb12 := NB141_139.out; have hnc12 := NB139_141.out; have hcz13_0 : w11.cell? ⟨gb141, 0, none⟩ = some (.int .i64 0) := (Qe BK141.out 0).trans rfl; have hcz13_1 : w11.cell? ⟨gb141, 1, none⟩ = some (.int .i64 0) := (Qe BK141.out 1).trans rfl; have hfz13_0 := Qc BK141.out 0; have hfz13_1 := Qc BK141.out 1)); go_upto_region 7 with (first | ((with_reducible refine QM (N := 4) rfl ?_); refine QI ?hg (N := 4) ?hd (cs := #[.int .i64 0, .int .i64 0]) (t := 120) ?hr ?_; (case hd => rfl); (case hg => rfl); (case hr => first | (go_simp; done) | (go_simp; rfl)); intro gb141 hg w11 hbox hb; have n0_ := Qf.mk (QF (g := gb139) (o := .cells #[.slice (some ad140) l0_0.length c0_0, .int .i64 a0_1, .int .i64 a0_2] 56 (0, 0)) (by (with_reducible repeat (first | refine Qd ?_ _ | refine Qg ?_ | refine Qb ?_ _)); exact BK139.out) hb); have n1_ := Qf.mk (Qo (by repeat (first | (with_reducible first | exact HB.out | apply Qi | apply Qa | apply Qj | refine Qk ?_ GE139.out) | exact HB.out)) hb); have n2_ := Qf.mk (hbox); have n3_ := Qf.mk ((by rw [hg]; exact (Qp (by repeat (first | (with_reducible first | exact HB.out | apply Qi | apply Qa | apply Qj | refine Qk ?_ GE139.out) | exact HB.out))) : w.heap.size ≤ gb141)); have n4_ := Qf.mk ((by rw [hg]; exact (Qp (by repeat (first | (with_reducible first | exact HB.out | apply Qi | apply Qa | apply Qj | refine Qk ?_ GE139.out) | exact HB.out))) : w.heap.size ≤ gb141)); have n5_ := Qf.mk ((by rw [hg]; exact Nat.ne_of_lt (QR (g := gb139) (o := .cells #[.slice (some ad140) l0_0.length c0_0, .int .i64 a0_1, .int .i64 a0_2] 56 (0, 0)) (by (with_reducible repeat (first | refine Qd ?_ _ | refine Qg ?_ | refine Qb ?_ _)); exact BK139.out)) : gb139 ≠ gb141)); have n6_ := Qf.mk ((by rw [hg]; exact Nat.ne_of_gt (QR (g := gb139) (o := .cells #[.slice (some ad140) l0_0.length c0_0, .int .i64 a0_1, .int .i64 a0_2] 56 (0, 0)) (by (with_reducible repeat (first | refine Qd ?_ _ | refine Qg ?_ | refine Qb ?_ _)); exact BK139.out)) : gb141 ≠ gb139)); clear BK139; clear HB; have BK139 := n0_; have HB := n1_; have BK141 := n2_; have GW141 := n3_; have GE141 := n4_; have NB139_141 := n5_; have NB141_139 := n6_; clear n0_ n1_ n2_ n3_ n4_ n5_ n6_; clear hb hbox hg; have hnb12 := NB141_139.out; have hnc12 := NB139_141.out; have hcz13_0 : w11.cell? ⟨gb141, 0, none⟩ = some (.int .i64 0) := (Qe BK141.out 0).trans rfl; have hcz13_1 : w11.cell? ⟨gb141, 1, none⟩ = some (.int .i64 0) := (Qe BK141.out 1).trans rfl; have hfz13_0 := Qc BK141.out 0; have hfz13_1 := Qc BK141.out 1)))
      (try simp only [Act.put, List.setIfInBounds_toArray, List.set_cons_zero, List.set_cons_succ])
      go_cut [35] (fun v35 wc => ∃ (kq : Nat) (x35_8 : Bool), v35 = .bool x35_8 ∧ Qf (Qq.j1 kq x3_1 x35_8 l0_0 a0_1 a0_2 ((QU l0_0 x3_1).f0) ((QU l0_0 x3_1).f1) = some r) ∧ Qf (kq ≤ k1) ∧ Qf (wc.heap[gb139]? = some (.cells #[(.slice (some ad140) l0_0.length c0_0), .int .i64 a0_1, .int .i64 a0_2] 56 (0, 0))) ∧ Qf (wc.heap[gb141]? = some (.cells #[.int .i64 ((QU l0_0 x3_1).f0), .int .i64 ((QU l0_0 x3_1).f1)] 120 (0, 0))) ∧ Qf (Below w.heap.size w wc))
      case first =>
       have H := HC9.out
       clear HC9
       by_cases c14 : ((QU l0_0 x3_1).f0) < 0
       ·rw [if_pos c14] at H
        have c14b0 : decide (((QU l0_0 x3_1).f0) < 0) = true := decide_eq_true c14
        clear c14
        (first | rw [c14b0] | (simp only [Qt, Qu]; rw [c14b0]) | skip)
        have H' := Qf.mk H
        clear H
        have hnb15 := NB141_139.out
        have hnc15 := NB139_141.out
        have hcz16_0 : w11.cell? ⟨gb141, 0, none⟩ = some (.int .i64 0) := (Qe BK141.out 0).trans rfl
        have hcz16_1 : w11.cell? ⟨gb141, 1, none⟩ = some (.int .i64 0) := (Qe BK141.out 1).trans rfl
        have hfz16_0 := Qc BK141.out 0
        have hfz16_1 := Qc BK141.out 1
        go_wp2
        repeat (go_quiet (fail); try go_wp2)
        go_meet
        case rel => exact ⟨_, (true), (by first | rfl | (simp; done) | (simp [*]; done)), H', ⟨by have := HK1.out; first | omega | exact Nat.le_refl _⟩, ⟨by (with_reducible repeat (first | refine Qd ?_ _ | refine Qg ?_ | refine Qb ?_ _)); refine Qv ?_ NB139_141.out _; (with_reducible repeat (first | refine Qd ?_ _ | refine Qg ?_ | refine Qb ?_ _)); refine Qv ?_ NB139_141.out _; (with_reducible repeat (first | refine Qd ?_ _ | refine Qg ?_ | refine Qb ?_ _)); exact BK139.out⟩, ⟨by (with_reducible repeat (first | refine Qd ?_ _ | refine Qg ?_ | refine Qb ?_ _)); refine Qy (cs := #[.int .i64 ((QU l0_0 x3_1).f0), .int .i64 0]) ?_ 1 _ rfl; (with_reducible repeat (first | refine Qd ?_ _ | refine Qg ?_ | refine Qb ?_ _)); refine Qy (cs := #[.int .i64 0, .int .i64 0]) ?_ 0 _ rfl; (with_reducible repeat (first | refine Qd ?_ _ | refine Qg ?_ | refine Qb ?_ _)); exact BK141.out⟩, ⟨by repeat (first | (with_reducible first | exact HB.out | apply Qi | apply Qa | apply Qj | refine Qk ?_ GE139.out | refine Qk ?_ GE141.out) | exact HB.out)⟩⟩
       ·rw [if_neg c14] at H
        have c14b0 : decide (((QU l0_0 x3_1).f0) < 0) = false := decide_eq_false c14
        clear c14
        (first | rw [c14b0] | (simp only [Qt, Qu]; rw [c14b0]) | skip)
        by_cases c17 : ((QU l0_0 x3_1).f1) ≤ ((QU l0_0 x3_1).f0)
        ·rw [if_pos c17] at H
         have c17b0 : decide (((QU l0_0 x3_1).f1) ≤ ((QU l0_0 x3_1).f0)) = true := decide_eq_true c17
         clear c17
         have H' := Qf.mk H
         clear H
         have hnb18 := NB141_139.out
         have hnc18 := NB139_141.out
         have hcz19_0 : w11.cell? ⟨gb141, 0, none⟩ = some (.int .i64 0) := (Qe BK141.out 0).trans rfl
         have hcz19_1 : w11.cell? ⟨gb141, 1, none⟩ = some (.int .i64 0) := (Qe BK141.out 1).trans rfl
         have hfz19_0 := Qc BK141.out 0
         have hfz19_1 := Qc BK141.out 1
         go_wp2
         repeat (go_quiet (fail); try go_wp2)
         go_meet
         case rel => exact ⟨_, (true), (by first | rfl | (simp; done) | (simp [*]; done)), H', ⟨by have := HK1.out; first | omega | exact Nat.le_refl _⟩, ⟨by (with_reducible repeat (first | refine Qd ?_ _ | refine Qg ?_ | refine Qb ?_ _)); refine Qv ?_ NB139_141.out _; (with_reducible repeat (first | refine Qd ?_ _ | refine Qg ?_ | refine Qb ?_ _)); refine Qv ?_ NB139_141.out _; (with_reducible repeat (first | refine Qd ?_ _ | refine Qg ?_ | refine Qb ?_ _)); exact BK139.out⟩, ⟨by (with_reducible repeat (first | refine Qd ?_ _ | refine Qg ?_ | refine Qb ?_ _)); refine Qy (cs := #[.int .i64 ((QU l0_0 x3_1).f0), .int .i64 0]) ?_ 1 _ rfl; (with_reducible repeat (first | refine Qd ?_ _ | refine Qg ?_ | refine Qb ?_ _)); refine Qy (cs := #[.int .i64 0, .int .i64 0]) ?_ 0 _ rfl; (with_reducible repeat (first | refine Qd ?_ _ | refine Qg ?_ | refine Qb ?_ _)); exact BK141.out⟩, ⟨by repeat (first | (with_reducible first | exact HB.out | apply Qi | apply Qa | apply Qj | refine Qk ?_ GE139.out | refine Qk ?_ GE141.out) | exact HB.out)⟩⟩
        ·rw [if_neg c17] at H
         have c17b0 : decide (((QU l0_0 x3_1).f1) ≤ ((QU l0_0 x3_1).f0)) = false := decide_eq_false c17
         clear c17
         have H' := Qf.mk H
         clear H
         have hnb20 := NB141_139.out
         have hnc20 := NB139_141.out
         have hcz21_0 : w11.cell? ⟨gb141, 0, none⟩ = some (.int .i64 0) := (Qe BK141.out 0).trans rfl
         have hcz21_1 : w11.cell? ⟨gb141, 1, none⟩ = some (.int .i64 0) := (Qe BK141.out 1).trans rfl
         have hfz21_0 := Qc BK141.out 0
         have hfz21_1 := Qc BK141.out 1
         go_wp2
         repeat (go_quiet (fail); try go_wp2)
         go_meet
         case rel => exact ⟨_, (decide (((QU l0_0 x3_1).f1) > 1440)), (by first | rfl | (simp; done) | (simp [*]; done)), H', ⟨by have := HK1.out; first | omega | exact Nat.le_refl _⟩, ⟨by (with_reducible repeat (first | refine Qd ?_ _ | refine Qg ?_ | refine Qb ?_ _)); refine Qv ?_ NB139_141.out _; (with_reducible repeat (first | refine Qd ?_ _ | refine Qg ?_ | refine Qb ?_ _)); refine Qv ?_ NB139_141.out _; (with_reducible repeat (first | refine Qd ?_ _ | refine Qg ?_ | refine Qb ?_ _)); exact BK139.out⟩, ⟨by (with_reducible repeat (first | refine Qd ?_ _ | refine Qg ?_ | refine Qb ?_ _)); refine Qy (cs := #[.int .i64 ((QU l0_0 x3_1).f0), .int .i64 0]) ?_ 1 _ rfl; (with_reducible repeat (first | refine Qd ?_ _ | refine Qg ?_ | refine Qb ?_ _)); refine Qy (cs := #[.int .i64 0, .int .i64 0]) ?_ 0 _ rfl; (with_reducible repeat (first | refine Qd ?_ _ | refine Qg ?_ | refine Qb ?_ _)); exact BK141.out⟩, ⟨by repeat (first | (with_reducible first | exact HB.out | apply Qi | apply Qa | apply Qj | refine Qk ?_ GE139.out | refine Qk ?_ GE141.out) | exact HB.out)⟩⟩
      case rest =>
       clear HC9
       try clear c1
       try clear p1
       try clear q1
       try clear hx1
       try clear c2
       try clear c2b0
       try clear c2b1
       try clear p2
       try clear c4
       try clear c7
       try clear c7b0
       try clear c8
       try clear c8b0
       try clear c12
       try clear c14
       try clear c14b0
       try clear p14
       try clear q14
       try clear hx14
       try clear c15
       try clear c17
       try clear c17b0
       try clear c18
       try clear c20
       try clear hcz10_0
       try clear hcz10_1
       try clear hcz10_2
       try clear hcz13_0
       try clear hcz13_1
       try clear hcz16_0
       try clear hcz16_1
       try clear hcz19_0
       try clear hcz19_1
       try clear hcz21_0
       try clear hcz21_1
       try clear hcz4_0
       try clear hcz4_1
       try clear hcz4_2
       try clear hcz6_0
       try clear hcz6_1
       try clear hcz6_2
       try clear hfz10_0
       try clear hfz10_1
       try clear hfz10_2
       try clear hfz13_0
       try clear hfz13_1
       try clear hfz16_0
       try clear hfz16_1
       try clear hfz19_0
       try clear hfz19_1
       try clear hfz21_0
       try clear hfz21_1
       try clear hfz4_0
       try clear hfz4_1
       try clear hfz4_2
       try clear hfz6_0
       try clear hfz6_1
       try clear hfz6_2
       try clear hx140_0
       try clear hx140_1
       try clear p140
       try clear p2
       try clear q140
       obtain ⟨kq, x35_8, rfl, HA, HJ8, BK139, BK141, HB⟩ := hcut
       cases kq with
       | zero => exact absurd HA.out (by simp [Qq.j1])
       | succ kj8 =>
        have H := HA.out
        clear HA
        simp only [Qq.j1] at H
        by_cases c22 : x35_8 = true
        ·subst c22
         have H1 : (some 2) = some r := by rw [if_pos rfl] at H; exact H
         clear H
         have H := H1
         clear H1
         obtain rfl := Option.some.inj H
         go_wp2
         repeat (go_quiet (fail); try go_wp2)
         go_ret
         exact ⟨by first | rfl | (simp [Qw, Qx] <;> rfl) | (simp [*, Qw, Qx] <;> rfl), by repeat (first | (with_reducible first | exact HB.out | apply Qi | apply Qa | apply Qj | refine Qk ?_ GE139.out | refine Qk ?_ GE141.out) | exact HB.out)⟩
        ·replace c22 := Bool.eq_false_iff.mpr c22
         subst c22
         have H1 : (if x3_1 > 0 then (if 0 ≤ (wrap64 (x3_1 - 1)) then (if (wrap64 (x3_1 - 1)) < (l0_0.length : Int) then (if ((QU l0_0 x3_1).f0) < ((QU l0_0 (wrap64 (x3_1 - 1))).f1) then (some 6) else (Qq.l0 kj8 (wrap64 (x3_1 + 1)) l0_0 a0_1 a0_2)) else (none)) else (none)) else (Qq.l0 kj8 (wrap64 (x3_1 + 1)) l0_0 a0_1 a0_2)) = some r := by rw [if_neg (show ¬ (false = true) by decide)] at H; exact H
         clear H
         have H := H1
         clear H1
         by_cases c23 : x3_1 > 0
         ·rw [if_pos c23] at H
          have c23b0 : decide (0 < x3_1) = true := decide_eq_true c23
          clear c23
          obtain ⟨ji24, hji24⟩ : ∃ j_ : Int, (wrap64 (x3_1 - 1)) = j_ := ⟨_, rfl⟩
          replace H : (if 0 ≤ (ji24) then (if (ji24) < (l0_0.length : Int) then (if ((QU l0_0 x3_1).f0) < ((QU l0_0 (ji24)).f1) then (some 6) else (Qq.l0 kj8 (wrap64 (x3_1 + 1)) l0_0 a0_1 a0_2)) else (none)) else (none)) = some r := by first | (rw [hji24] at H; exact H) | (simp only [hji24] at H ⊢; exact H)
          have hji24w : (IntKind.i64.wrap (x3_1 - 1)) = ji24 := (Qt _).trans hji24
          by_cases c25 : 0 ≤ (ji24)
          ·rw [if_pos c25] at H
           have c25b0 : decide (0 ≤ (ji24)) = true := decide_eq_true c25
           clear c25
           by_cases c26 : (ji24) < (l0_0.length : Int)
           ·rw [if_pos c26] at H
            have c26b0 : decide ((ji24) < (l0_0.length : Int)) = true := decide_eq_true c26
            clear c26
            by_cases c27 : ((QU l0_0 x3_1).f0) < ((QU l0_0 (ji24)).f1)
            ·rw [if_pos c27] at H
             have c27b0 : decide (((QU l0_0 x3_1).f0) < ((QU l0_0 (ji24)).f1)) = true := decide_eq_true c27
             clear c27
             obtain rfl := Option.some.inj H
             have hnb28 := NB141_139.out
             have hnc28 := NB139_141.out
             have hcz29_0 : wc.cell? ⟨gb141, 0, none⟩ = some (.int .i64 ((QU l0_0 x3_1).f0)) := (Qe BK141.out 0).trans rfl
             have hcz29_1 : wc.cell? ⟨gb141, 1, none⟩ = some (.int .i64 ((QU l0_0 x3_1).f1)) := (Qe BK141.out 1).trans rfl
             have hfz29_0 := Qc BK141.out 0
             have hfz29_1 := Qc BK141.out 1
             have hcz30_0 : wc.cell? ⟨gb139, 0, none⟩ = some (.slice (some ad140) l0_0.length c0_0) := (Qe BK139.out 0).trans rfl
             have hcz30_1 : wc.cell? ⟨gb139, 1, none⟩ = some (.int .i64 a0_1) := (Qe BK139.out 1).trans rfl
             have hcz30_2 : wc.cell? ⟨gb139, 2, none⟩ = some (.int .i64 a0_2) := (Qe BK139.out 2).trans rfl
             have hfz30_0 := Qc BK139.out 0
             have hfz30_1 := Qc BK139.out 1
             have hfz30_2 := Qc BK139.out 2
             have p142 : 0 ≤ ((ji24) : Int) := of_decide_eq_true (by first | (with_reducible assumption) | assumption)
             have q142 : (ji24) < (l0_0.length : Int) := of_decide_eq_true (by first | (with_reducible assumption) | assumption)
             obtain ⟨ad142, e142, hx142_0, hx142_1⟩ := at_T120 HR0_0.out (ji24) p142 q142
             obtain rfl : ad140 = ad142 := (by injection e142)
             replace hx142_0 := (HB.out.cell (World.block_lt_of_cell? w _ hx142_0)).trans hx142_0
             replace hx142_1 := (HB.out.cell (World.block_lt_of_cell? w _ hx142_1)).trans hx142_1
             replace p142 := eq_true p142
             replace q142 := eq_true q142
             go_wp2
             repeat (go_quiet (fail); try go_wp2)
             go_ret
             exact ⟨by first | rfl | (simp [Qw, Qx] <;> rfl) | (simp only [← hji24]; first | rfl | (simp [Qw, Qx] <;> rfl)) | (simp [*, Qw, Qx] <;> rfl), by repeat (first | (with_reducible first | exact HB.out | apply Qi | apply Qa | apply Qj | refine Qk ?_ GE139.out | refine Qk ?_ GE141.out) | exact HB.out)⟩
            ·rw [if_neg c27] at H
             have c27b0 : decide (((QU l0_0 x3_1).f0) < ((QU l0_0 (ji24)).f1)) = false := decide_eq_false c27
             clear c27
             have H' := Qf.mk H
             clear H
             have hnb31 := NB141_139.out
             have hnc31 := NB139_141.out
             have hcz32_0 : wc.cell? ⟨gb141, 0, none⟩ = some (.int .i64 ((QU l0_0 x3_1).f0)) := (Qe BK141.out 0).trans rfl
             have hcz32_1 : wc.cell? ⟨gb141, 1, none⟩ = some (.int .i64 ((QU l0_0 x3_1).f1)) := (Qe BK141.out 1).trans rfl
             have hfz32_0 := Qc BK141.out 0
             have hfz32_1 := Qc BK141.out 1
             have hcz33_0 : wc.cell? ⟨gb139, 0, none⟩ = some (.slice (some ad140) l0_0.length c0_0) := (Qe BK139.out 0).trans rfl
             have hcz33_1 : wc.cell? ⟨gb139, 1, none⟩ = some (.int .i64 a0_1) := (Qe BK139.out 1).trans rfl
             have hcz33_2 : wc.cell? ⟨gb139, 2, none⟩ = some (.int .i64 a0_2) := (Qe BK139.out 2).trans rfl
             have hfz33_0 := Qc BK139.out 0
             have hfz33_1 := Qc BK139.out 1
             have hfz33_2 := Qc BK139.out 2
             have p142 : 0 ≤ ((ji24) : Int) := of_decide_eq_true (by first | (with_reducible assumption) | assumption)
             have q142 : (ji24) < (l0_0.length : Int) := of_decide_eq_true (by first | (with_reducible assumption) | assumption)
             obtain ⟨ad142, e142, hx142_0, hx142_1⟩ := at_T120 HR0_0.out (ji24) p142 q142
             obtain rfl : ad140 = ad142 := (by injection e142)
             replace hx142_0 := (HB.out.cell (World.block_lt_of_cell? w _ hx142_0)).trans hx142_0
             replace hx142_1 := (HB.out.cell (World.block_lt_of_cell? w _ hx142_1)).trans hx142_1
             replace p142 := eq_true p142
             replace q142 := eq_true q142
             go_wp2
             repeat (go_quiet (fail); try go_wp2)
             go_roundg kj8
             case measure => have := HK1.out; have := HJ8.out; omega
             case rel => exact ⟨(wrap64 (x3_1 + 1)), (by first | rfl | (simp; done) | (simp [*]; done)), H', ⟨by have := HK1.out; have := HJ8.out; omega⟩, ⟨by (with_reducible repeat (first | refine Qd ?_ _ | refine Qg ?_ | refine Qb ?_ _)); exact BK139.out⟩, ⟨by repeat (first | (with_reducible first | exact HB.out | apply Qi | apply Qa | apply Qj | refine Qk ?_ GE139.out | refine Qk ?_ GE141.out) | exact HB.out)⟩⟩
           ·rw [if_neg c26] at H
            exact absurd H (by simp)
          ·rw [if_neg c25] at H
           exact absurd H (by simp)
         ·rw [if_neg c23] at H
          have c23b0 : decide (0 < x3_1) = false := decide_eq_false c23
          clear c23
          have H' := Qf.mk H
          clear H
          go_wp2
          repeat (go_quiet (fail); try go_wp2)
          go_roundg kj8
          case measure => have := HK1.out; have := HJ8.out; omega
          case rel => exact ⟨(wrap64 (x3_1 + 1)), (by first | rfl | (simp; done) | (simp [*]; done)), H', ⟨by have := HK1.out; have := HJ8.out; omega⟩, ⟨by (with_reducible repeat (first | refine Qd ?_ _ | refine Qg ?_ | refine Qb ?_ _)); exact BK139.out⟩, ⟨by repeat (first | (with_reducible first | exact HB.out | apply Qi | apply Qa | apply Qj | refine Qk ?_ GE139.out | refine Qk ?_ GE141.out) | exact HB.out)⟩⟩
     ·rw [if_neg c8] at H
      exact absurd H (by simp)
    ·rw [if_neg c7] at H
     have c7b0 : decide (x3_1 < (l0_0.length : Int)) = false := decide_eq_false c7
     clear c7
     by_cases c34 : a0_2 < 0
     ·rw [if_pos c34] at H
      have c34b0 : decide (a0_2 < 0) = true := decide_eq_true c34
      clear c34
      obtain rfl := Option.some.inj H
      have hcz35_0 : wr.cell? ⟨gb139, 0, none⟩ = some (.slice A0_0 l0_0.length c0_0) := (Qe BK139.out 0).trans rfl
      have hcz35_1 : wr.cell? ⟨gb139, 1, none⟩ = some (.int .i64 a0_1) := (Qe BK139.out 1).trans rfl
      have hcz35_2 : wr.cell? ⟨gb139, 2, none⟩ = some (.int .i64 a0_2) := (Qe BK139.out 2).trans rfl
      have hfz35_0 := Qc BK139.out 0
      have hfz35_1 := Qc BK139.out 1
      have hfz35_2 := Qc BK139.out 2
      go_wp2
      repeat (go_quiet (fail); try go_wp2)
      go_ret
      exact ⟨by first | rfl | (simp [Qw, Qx] <;> rfl) | (simp [*, Qw, Qx] <;> rfl), by repeat (first | (with_reducible first | exact HB.out | apply Qi | apply Qa | apply Qj | refine Qk ?_ GE139.out) | exact HB.out)⟩
     ·rw [if_neg c34] at H
      have c34b0 : decide (a0_2 < 0) = false := decide_eq_false c34
      clear c34
      by_cases c36 : a0_2 = 0
      ·rw [if_pos c36] at H
       have c36b0 : (a0_2 == 0) = true := beq_iff_eq.mpr c36
       have c36b1 : (a0_2 != 0) = false := bne_eq_false_iff_eq.mpr c36
       clear c36
       by_cases c37 : a0_1 = 0
       ·rw [if_pos c37] at H
        have c37b0 : (a0_1 == 0) = true := beq_iff_eq.mpr c37
        have c37b1 : (a0_1 != 0) = false := bne_eq_false_iff_eq.mpr c37
        clear c37
        by_cases c38 : a0_2 > 0
        ·rw [if_pos c38] at H
         have c38b0 : decide (0 < a0_2) = true := decide_eq_true c38
         clear c38
         by_cases c39 : a0_1 < 0
         ·rw [if_pos c39] at H
          have c39b0 : decide (a0_1 < 0) = true := decide_eq_true c39
          clear c39
          obtain rfl := Option.some.inj H
          have hcz40_0 : wr.cell? ⟨gb139, 0, none⟩ = some (.slice A0_0 l0_0.length c0_0) := (Qe BK139.out 0).trans rfl
          have hcz40_1 : wr.cell? ⟨gb139, 1, none⟩ = some (.int .i64 a0_1) := (Qe BK139.out 1).trans rfl
          have hcz40_2 : wr.cell? ⟨gb139, 2, none⟩ = some (.int .i64 a0_2) := (Qe BK139.out 2).trans rfl
          have hfz40_0 := Qc BK139.out 0
          have hfz40_1 := Qc BK139.out 1
          have hfz40_2 := Qc BK139.out 2
          go_wp2
          repeat (go_quiet (fail); try go_wp2)
          go_ret
          exact ⟨by first | rfl | (simp [Qw, Qx] <;> rfl) | (simp [*, Qw, Qx] <;> rfl), by repeat (first | (with_reducible first | exact HB.out | apply Qi | apply Qa | apply Qj | refine Qk ?_ GE139.out) | exact HB.out)⟩
         ·rw [if_neg c39] at H
          have c39b0 : decide (a0_1 < 0) = false := decide_eq_false c39
          clear c39
          by_cases c41 : a0_1 > 1439
          ·rw [if_pos c41] at H
           have c41b0 : decide (1439 < a0_1) = true := decide_eq_true c41
           clear c41
           obtain rfl := Option.some.inj H
           have hcz42_0 : wr.cell? ⟨gb139, 0, none⟩ = some (.slice A0_0 l0_0.length c0_0) := (Qe BK139.out 0).trans rfl
           have hcz42_1 : wr.cell? ⟨gb139, 1, none⟩ = some (.int .i64 a0_1) := (Qe BK139.out 1).trans rfl
           have hcz42_2 : wr.cell? ⟨gb139, 2, none⟩ = some (.int .i64 a0_2) := (Qe BK139.out 2).trans rfl
           have hfz42_0 := Qc BK139.out 0
           have hfz42_1 := Qc BK139.out 1
           have hfz42_2 := Qc BK139.out 2
           go_wp2
           repeat (go_quiet (fail); try go_wp2)
           go_ret
           exact ⟨by first | rfl | (simp [Qw, Qx] <;> rfl) | (simp [*, Qw, Qx] <;> rfl), by repeat (first | (with_reducible first | exact HB.out | apply Qi | apply Qa | apply Qj | refine Qk ?_ GE139.out) | exact HB.out)⟩
          ·rw [if_neg c41] at H
           have c41b0 : decide (1439 < a0_1) = false := decide_eq_false c41
           clear c41
           obtain rfl := Option.some.inj H
           have hcz43_0 : wr.cell? ⟨gb139, 0, none⟩ = some (.slice A0_0 l0_0.length c0_0) := (Qe BK139.out 0).trans rfl
           have hcz43_1 : wr.cell? ⟨gb139, 1, none⟩ = some (.int .i64 a0_1) := (Qe BK139.out 1).trans rfl
           have hcz43_2 : wr.cell? ⟨gb139, 2, none⟩ = some (.int .i64 a0_2) := (Qe BK139.out 2).trans rfl
           have hfz43_0 := Qc BK139.out 0
           have hfz43_1 := Qc BK139.out 1
           have hfz43_2 := Qc BK139.out 2
           go_wp2
           repeat (go_quiet (fail); try go_wp2)
           go_ret
           exact ⟨by first | rfl | (simp [Qw, Qx] <;> rfl) | (simp [*, Qw, Qx] <;> rfl), by repeat (first | (with_reducible first | exact HB.out | apply Qi | apply Qa | apply Qj | refine Qk ?_ GE139.out) | exact HB.out)⟩
        ·rw [if_neg c38] at H
         have c38b0 : decide (0 < a0_2) = false := decide_eq_false c38
         clear c38
         obtain rfl := Option.some.inj H
         have hcz44_0 : wr.cell? ⟨gb139, 0, none⟩ = some (.slice A0_0 l0_0.length c0_0) := (Qe BK139.out 0).trans rfl
         have hcz44_1 : wr.cell? ⟨gb139, 1, none⟩ = some (.int .i64 a0_1) := (Qe BK139.out 1).trans rfl
         have hcz44_2 : wr.cell? ⟨gb139, 2, none⟩ = some (.int .i64 a0_2) := (Qe BK139.out 2).trans rfl
         have hfz44_0 := Qc BK139.out 0
         have hfz44_1 := Qc BK139.out 1
         have hfz44_2 := Qc BK139.out 2
         go_wp2
         repeat (go_quiet (fail); try go_wp2)
         go_ret
         exact ⟨by first | rfl | (simp [Qw, Qx] <;> rfl) | (simp [*, Qw, Qx] <;> rfl), by repeat (first | (with_reducible first | exact HB.out | apply Qi | apply Qa | apply Qj | refine Qk ?_ GE139.out) | exact HB.out)⟩
       ·rw [if_neg c37] at H
        have c37b0 : (a0_1 == 0) = false := beq_eq_false_iff_ne.mpr c37
        have c37b1 : (a0_1 != 0) = true := bne_iff_ne.mpr c37
        obtain rfl := Option.some.inj H
        have hcz45_0 : wr.cell? ⟨gb139, 0, none⟩ = some (.slice A0_0 l0_0.length c0_0) := (Qe BK139.out 0).trans rfl
        have hcz45_1 : wr.cell? ⟨gb139, 1, none⟩ = some (.int .i64 a0_1) := (Qe BK139.out 1).trans rfl
        have hcz45_2 : wr.cell? ⟨gb139, 2, none⟩ = some (.int .i64 a0_2) := (Qe BK139.out 2).trans rfl
        have hfz45_0 := Qc BK139.out 0
        have hfz45_1 := Qc BK139.out 1
        have hfz45_2 := Qc BK139.out 2
        go_wp2
        repeat (go_quiet (fail); try go_wp2)
        go_ret
        exact ⟨by first | rfl | (simp [Qw, Qx] <;> rfl) | (simp [*, Qw, Qx] <;> rfl), by repeat (first | (with_reducible first | exact HB.out | apply Qi | apply Qa | apply Qj | refine Qk ?_ GE139.out) | exact HB.out)⟩
      ·rw [if_neg c36] at H
       have c36b0 : (a0_2 == 0) = false := beq_eq_false_iff_ne.mpr c36
       have c36b1 : (a0_2 != 0) = true := bne_iff_ne.mpr c36
       by_cases c46 : a0_2 > 0
       ·rw [if_pos c46] at H
        have c46b0 : decide (0 < a0_2) = true := decide_eq_true c46
        clear c46
        by_cases c47 : a0_1 < 0
        ·rw [if_pos c47] at H
         have c47b0 : decide (a0_1 < 0) = true := decide_eq_true c47
         clear c47
         obtain rfl := Option.some.inj H
         have hcz48_0 : wr.cell? ⟨gb139, 0, none⟩ = some (.slice A0_0 l0_0.length c0_0) := (Qe BK139.out 0).trans rfl
         have hcz48_1 : wr.cell? ⟨gb139, 1, none⟩ = some (.int .i64 a0_1) := (Qe BK139.out 1).trans rfl
         have hcz48_2 : wr.cell? ⟨gb139, 2, none⟩ = some (.int .i64 a0_2) := (Qe BK139.out 2).trans rfl
         have hfz48_0 := Qc BK139.out 0
         have hfz48_1 := Qc BK139.out 1
         have hfz48_2 := Qc BK139.out 2
         go_wp2
         repeat (go_quiet (fail); try go_wp2)
         go_ret
         exact ⟨by first | rfl | (simp [Qw, Qx] <;> rfl) | (simp [*, Qw, Qx] <;> rfl), by repeat (first | (with_reducible first | exact HB.out | apply Qi | apply Qa | apply Qj | refine Qk ?_ GE139.out) | exact HB.out)⟩
        ·rw [if_neg c47] at H
         have c47b0 : decide (a0_1 < 0) = false := decide_eq_false c47
         clear c47
         by_cases c49 : a0_1 > 1439
         ·rw [if_pos c49] at H
          have c49b0 : decide (1439 < a0_1) = true := decide_eq_true c49
          clear c49
          obtain rfl := Option.some.inj H
          have hcz50_0 : wr.cell? ⟨gb139, 0, none⟩ = some (.slice A0_0 l0_0.length c0_0) := (Qe BK139.out 0).trans rfl
          have hcz50_1 : wr.cell? ⟨gb139, 1, none⟩ = some (.int .i64 a0_1) := (Qe BK139.out 1).trans rfl
          have hcz50_2 : wr.cell? ⟨gb139, 2, none⟩ = some (.int .i64 a0_2) := (Qe BK139.out 2).trans rfl
          have hfz50_0 := Qc BK139.out 0
          have hfz50_1 := Qc BK139.out 1
          have hfz50_2 := Qc BK139.out 2
          go_wp2
          repeat (go_quiet (fail); try go_wp2)
          go_ret
          exact ⟨by first | rfl | (simp [Qw, Qx] <;> rfl) | (simp [*, Qw, Qx] <;> rfl), by repeat (first | (with_reducible first | exact HB.out | apply Qi | apply Qa | apply Qj | refine Qk ?_ GE139.out) | exact HB.out)⟩
         ·rw [if_neg c49] at H
          have c49b0 : decide (1439 < a0_1) = false := decide_eq_false c49
          clear c49
          obtain rfl := Option.some.inj H
          have hcz51_0 : wr.cell? ⟨gb139, 0, none⟩ = some (.slice A0_0 l0_0.length c0_0) := (Qe BK139.out 0).trans rfl
          have hcz51_1 : wr.cell? ⟨gb139, 1, none⟩ = some (.int .i64 a0_1) := (Qe BK139.out 1).trans rfl
          have hcz51_2 : wr.cell? ⟨gb139, 2, none⟩ = some (.int .i64 a0_2) := (Qe BK139.out 2).trans rfl
          have hfz51_0 := Qc BK139.out 0
          have hfz51_1 := Qc BK139.out 1
          have hfz51_2 := Qc BK139.out 2
          go_wp2
          repeat (go_quiet (fail); try go_wp2)
          go_ret
          exact ⟨by first | rfl | (simp [Qw, Qx] <;> rfl) | (simp [*, Qw, Qx] <;> rfl), by repeat (first | (with_reducible first | exact HB.out | apply Qi | apply Qa | apply Qj | refine Qk ?_ GE139.out) | exact HB.out)⟩
       ·rw [if_neg c46] at H
        have c46b0 : decide (0 < a0_2) = false := decide_eq_false c46
        clear c46
        obtain rfl := Option.some.inj H
        have hcz52_0 : wr.cell? ⟨gb139, 0, none⟩ = some (.slice A0_0 l0_0.length c0_0) := (Qe BK139.out 0).trans rfl
        have hcz52_1 : wr.cell? ⟨gb139, 1, none⟩ = some (.int .i64 a0_1) := (Qe BK139.out 1).trans rfl
        have hcz52_2 : wr.cell? ⟨gb139, 2, none⟩ = some (.int .i64 a0_2) := (Qe BK139.out 2).trans rfl
        have hfz52_0 := Qc BK139.out 0
        have hfz52_1 := Qc BK139.out 1
        have hfz52_2 := Qc BK139.out 2
        go_wp2
        repeat (go_quiet (fail); try go_wp2)
        go_ret
        exact ⟨by first | rfl | (simp [Qw, Qx] <;> rfl) | (simp [*, Qw, Qx] <;> rfl), by repeat (first | (with_reducible first | exact HB.out | apply Qi | apply Qa | apply Qj | refine Qk ?_ GE139.out) | exact HB.out)⟩

end Go.Proofs.Ytbkfjmpnbalkaaa.QTurnsPieces
