-- Written by a program of this session (wip/ext.py) with the kit's print; Lean checks it.
import Derived.Test.YtbkfjmpnbalkaaaQTurnsPiecesx0
namespace Go.Proofs.Ytbkfjmpnbalkaaa.QTurnsPieces
open Go.RowKit Go.Proofs.YtbkfjmpnbalkaaaW.PrintWords Go.Proofs.YtbkfjmpnbalkaaaW.PrintLast Go.Proofs.YtbkfjmpnbalkaaaW.PrintMore
attribute [local go_sem] max2_int min2_int max_two min_two max_three min_three max_four min_four   -- for this text's walks alone
set_option linter.unusedVariables false
set_option linter.unusedSimpArgs false

/-! ### QC: function 13 -/
mutual
def QC.l0 : Nat → List (S42) → Int → List Int → List (S158) → List (S58) → Option (Bool)
 | 0, _, _, _, _, _ => none
 | k + 1, x1, x5, x126000, x126001, x126002 => if x5 < (x126002.length : Int) then (QC.j1 k x1 x5 (decide (x5 < 11)) x126000 x126001 x126002) else (QC.j1 k x1 x5 false x126000 x126001 x126002)
def QC.j1 : Nat → List (S42) → Int → Bool → List Int → List (S158) → List (S58) → Option (Bool)
 | 0, _, _, _, _, _, _ => none
 | k + 1, x1, x5, x14, x126000, x126001, x126002 => if x14 = true then (if 0 ≤ x5 then (if x5 < (x126002.length : Int) then (if (((Qh x126002 x5).f5.f0).length : Int) > 20 then (some false) else (QC.l0 k x1 (wrap64 (x5 + 1)) x126000 x126001 x126002)) else (none)) else (none)) else (if (x126002.length : Int) ≤ 10 then (if (x126000.length : Int) ≤ 12 then (if (x126001.length : Int) ≤ 12 then (some (decide ((x1.length : Int) ≤ 20))) else (some false)) else (some false)) else (some false))
end
def QC.f (k : Nat) (l0_0 : List Int) (l0_1 : List (S158)) (l0_2 : List (S58)) (l1 : List (S42)) : Option (Bool) := QC.l0 k l1 0 l0_0 l0_1 l0_2
theorem QC.mono_l : ∀ k, (∀ y0 y1 y2 y3 y4, LeO (QC.l0 k y0 y1 y2 y3 y4) (QC.l0 (k + 1) y0 y1 y2 y3 y4)) ∧ (∀ y0 y1 y2 y3 y4 y5, LeO (QC.j1 k y0 y1 y2 y3 y4 y5) (QC.j1 (k + 1) y0 y1 y2 y3 y4 y5))
 | 0 => ⟨fun _ _ _ _ _ r h => by simp [QC.l0] at h, fun _ _ _ _ _ _ r h => by simp [QC.j1] at h⟩
 | k + 1 => by
  obtain ⟨ih0, ih1⟩ := QC.mono_l k
  refine ⟨?_, ?_⟩
  ·intro y0 y1 y2 y3 y4
   unfold QC.l0
   repeat' first
   | (with_reducible exact ih0 _ _ _ _ _)
   | (with_reducible exact ih1 _ _ _ _ _ _)
   | (with_reducible exact LeO.refl _)
   | (with_reducible exact LeO.none _)
   | (with_reducible refine LeO.ite ?_ ?_)
   | (with_reducible refine LeO.bind ?_ (fun _ => ?_))
   | exact ih0 _ _ _ _ _
   | exact ih1 _ _ _ _ _ _
   | exact LeO.none _
   | refine LeO.ite ?_ ?_
   | refine LeO.bind ?_ (fun _ => ?_)
  ·intro y0 y1 y2 y3 y4 y5
   unfold QC.j1
   repeat' first
   | (with_reducible exact ih0 _ _ _ _ _)
   | (with_reducible exact ih1 _ _ _ _ _ _)
   | (with_reducible exact LeO.refl _)
   | (with_reducible exact LeO.none _)
   | (with_reducible refine LeO.ite ?_ ?_)
   | (with_reducible refine LeO.bind ?_ (fun _ => ?_))
   | exact ih0 _ _ _ _ _
   | exact ih1 _ _ _ _ _ _
   | exact LeO.none _
   | refine LeO.ite ?_ ?_
   | refine LeO.bind ?_ (fun _ => ?_)
theorem QC.mono : ∀ a0 a1 a2 a3 k, LeO (QC.f k a0 a1 a2 a3) (QC.f (k + 1) a0 a1 a2 a3) := by
 intro a0 a1 a2 a3 k
 obtain ⟨ih0, ih1⟩ := QC.mono_l k
 unfold QC.f
 repeat' first
   | (with_reducible exact ih0 _ _ _ _ _)
   | (with_reducible exact ih1 _ _ _ _ _ _)
   | (with_reducible exact LeO.refl _)
   | (with_reducible exact LeO.none _)
   | (with_reducible refine LeO.ite ?_ ?_)
   | (with_reducible refine LeO.bind ?_ (fun _ => ?_))
   | exact ih0 _ _ _ _ _
   | exact ih1 _ _ _ _ _ _
   | exact LeO.none _
   | refine LeO.ite ?_ ?_
   | refine LeO.bind ?_ (fun _ => ?_)
set_option maxHeartbeats 8000000 in
set_option maxRecDepth 100000 in
theorem QC.calls (k : Nat) (A0_0 : Option Addr) (c0_0 : Nat) (l0_0 : List Int) (A0_1 : Option Addr) (c0_1 : Nat) (l0_1 : List (S158)) (A0_2 : Option Addr) (c0_2 : Nat) (l0_2 : List (S58)) (A1 : Option Addr) (c1 : Nat) (l1 : List (S42)) (r : Bool) (w : World) (hr0_0 : Kd.C (Kd.int .i64) w A0_0 l0_0.length l0_0) (hc0_0 : l0_0.length ≤ c0_0) (hr0_1 : Kd.C k158 w A0_1 l0_1.length l0_1) (hc0_1 : l0_1.length ≤ c0_1) (hr0_2 : Kd.C k58 w A0_2 l0_2.length l0_2) (hc0_2 : l0_2.length ≤ c0_2) (hr1 : Kd.C k42 w A1 l1.length l1) (hc1 : l1.length ≤ c1) (h : QC.f k l0_0 l0_1 l0_2 l1 = some r) :
  Calls Try.prog 13 #[.agg #[.slice A0_0 l0_0.length c0_0, .slice A0_1 l0_1.length c0_1, .slice A0_2 l0_2.length c0_2], .slice A1 l1.length c1] w fun e w' => e = .returned (.bool r) ∧ Below w.heap.size w w' := by
 have hu37 := Try.underlying37
 have HR0_0 := Qf.mk hr0_0
 have HC0_0 := Qf.mk hc0_0
 clear hr0_0 hc0_0
 have HR0_1 := Qf.mk hr0_1
 have HC0_1 := Qf.mk hc0_1
 clear hr0_1 hc0_1
 have HR0_2 := Qf.mk hr0_2
 have HC0_2 := Qf.mk hc0_2
 clear hr0_2 hc0_2
 have HR1 := Qf.mk hr1
 have HC1 := Qf.mk hc1
 clear hr1 hc1
 have HB := Qf.mk (Below.refl w.heap.size w)
 have H : (QC.l0 k l1 0 l0_0 l0_1 l0_2) = some r := h
 clear h
 have H' := Qf.mk H
 clear H
 go_enter Try.func13, Try.ntmps13
 go_wp2_with (first | ((with_reducible refine QM (N := 2) rfl ?_); (try (refine Q5 (by rfl) ?_; dsimp only)); refine QI ?hg (N := 2) ?hd (cs := #[.slice A0_0 l0_0.length c0_0, .slice A0_1 l0_1.length c0_1, .slice A0_2 l0_2.length c0_2]) (t := 37) ?hr ?_; (case hd => rfl); (case hg => rfl); (case hr => first | (go_simp; done) | (go_simp; rfl)); intro gb125 hg w3 hbox hb; have n0_ := Qf.mk (Qo (by repeat (first | (with_reducible first | exact HB.out | apply Qi | apply Qa | apply Qj) | exact HB.out)) hb); have n1_ := Qf.mk (hbox); have n2_ := Qf.mk ((by rw [hg]; exact (Qp (by repeat (first | (with_reducible first | exact HB.out | apply Qi | apply Qa | apply Qj) | exact HB.out))) : w.heap.size ≤ gb125)); have n3_ := Qf.mk ((by rw [hg]; exact (Qp (by repeat (first | (with_reducible first | exact HB.out | apply Qi | apply Qa | apply Qj) | exact HB.out))) : w.heap.size ≤ gb125)); clear HB; have HB := n0_; have BK125 := n1_; have GW125 := n2_; have GE125 := n3_; clear n0_ n1_ n2_ n3_; clear hb hbox hg))
 go_loopg [5] k (fun kq v5 w' => ∃ (x5_1 : Int), v5 = .int .i64 x5_1 ∧ Qf (QC.l0 kq l1 x5_1 l0_0 l0_1 l0_2 = some r) ∧ Qf (kq ≤ k) ∧ Qf (w'.heap[gb125]? = some (.cells #[(.slice A0_0 l0_0.length c0_0), (.slice A0_1 l0_1.length c0_1), (.slice A0_2 l0_2.length c0_2)] 37 (0, 0))) ∧ Qf (Below w.heap.size w w'))
 case atStart => exact ⟨(0), (by first | rfl | (simp; done) | (simp [*]; done)), H', ⟨Nat.le_refl _⟩, ⟨by (with_reducible repeat (first | refine Qd ?_ _ | refine Qg ?_ | refine Qb ?_ _)); exact BK125.out⟩, ⟨by repeat (first | (with_reducible first | exact HB.out | apply Qi | apply Qa | apply Qj | refine Qk ?_ GE125.out) | exact HB.out)⟩⟩
 case round =>
  clear H'
  try clear c1
  try clear p2
  obtain ⟨x5_1, rfl, HA, HK1, BK125, HB⟩ := hrel
  cases gk with
  | zero => exact absurd HA.out (by simp [QC.l0])
  | succ k1 =>
   have H := HA.out
   clear HA
   simp only [QC.l0] at H
   have HC4 := Qf.mk H
   clear H
   go_upto_region 2 with (fail)
   go_cut [14] (fun v14 wc => ∃ (kq : Nat) (x14_3 : Bool), v14 = .bool x14_3 ∧ Qf (QC.j1 kq l1 x5_1 x14_3 l0_0 l0_1 l0_2 = some r) ∧ Qf (kq ≤ k1) ∧ Qf (wc.heap[gb125]? = some (.cells #[(.slice A0_0 l0_0.length c0_0), (.slice A0_1 l0_1.length c0_1), (.slice A0_2 l0_2.length c0_2)] 37 (0, 0))) ∧ Qf (Below w.heap.size w wc))
   case first =>
    have H := HC4.out
    clear HC4
    by_cases c5 : x5_1 < (l0_2.length : Int)
    ·rw [if_pos c5] at H
     have c5b0 : decide (x5_1 < (l0_2.length : Int)) = true := decide_eq_true c5
     clear c5
     (first | rw [c5b0] | (simp only [Qt, Qu]; rw [c5b0]) | skip)
     have H' := Qf.mk H
     clear H
     have hcz6_0 : wr.cell? ⟨gb125, 0, none⟩ = some (.slice A0_0 l0_0.length c0_0) := (Qe BK125.out 0).trans rfl
     have hcz6_1 : wr.cell? ⟨gb125, 1, none⟩ = some (.slice A0_1 l0_1.length c0_1) := (Qe BK125.out 1).trans rfl
     have hcz6_2 : wr.cell? ⟨gb125, 2, none⟩ = some (.slice A0_2 l0_2.length c0_2) := (Qe BK125.out 2).trans rfl
     have hfz6_0 := Qc BK125.out 0
     have hfz6_1 := Qc BK125.out 1
     have hfz6_2 := Qc BK125.out 2
     go_wp2
     go_meet
     case rel => exact ⟨_, (decide (x5_1 < 11)), (by first | rfl | (simp; done) | (simp [*]; done)), H', ⟨by have := HK1.out; first | omega | exact Nat.le_refl _⟩, ⟨by (with_reducible repeat (first | refine Qd ?_ _ | refine Qg ?_ | refine Qb ?_ _)); exact BK125.out⟩, ⟨by repeat (first | (with_reducible first | exact HB.out | apply Qi | apply Qa | apply Qj | refine Qk ?_ GE125.out) | exact HB.out)⟩⟩
    ·rw [if_neg c5] at H
     have c5b0 : decide (x5_1 < (l0_2.length : Int)) = false := decide_eq_false c5
     clear c5
     (first | rw [c5b0] | (simp only [Qt, Qu]; rw [c5b0]) | skip)
     have H' := Qf.mk H
     clear H
     have hcz7_0 : wr.cell? ⟨gb125, 0, none⟩ = some (.slice A0_0 l0_0.length c0_0) := (Qe BK125.out 0).trans rfl
     have hcz7_1 : wr.cell? ⟨gb125, 1, none⟩ = some (.slice A0_1 l0_1.length c0_1) := (Qe BK125.out 1).trans rfl
     have hcz7_2 : wr.cell? ⟨gb125, 2, none⟩ = some (.slice A0_2 l0_2.length c0_2) := (Qe BK125.out 2).trans rfl
     have hfz7_0 := Qc BK125.out 0
     have hfz7_1 := Qc BK125.out 1
     have hfz7_2 := Qc BK125.out 2
     go_wp2
     go_meet
     case rel => exact ⟨_, (false), (by first | rfl | (simp; done) | (simp [*]; done)), H', ⟨by have := HK1.out; first | omega | exact Nat.le_refl _⟩, ⟨by (with_reducible repeat (first | refine Qd ?_ _ | refine Qg ?_ | refine Qb ?_ _)); exact BK125.out⟩, ⟨by repeat (first | (with_reducible first | exact HB.out | apply Qi | apply Qa | apply Qj | refine Qk ?_ GE125.out) | exact HB.out)⟩⟩
   case rest =>
    clear HC4
    try clear c1
    try clear p2
    try clear c5
    try clear c5b0
    try clear hcz6_0
    try clear hcz6_1
    try clear hcz6_2
    try clear hcz7_0
    try clear hcz7_1
    try clear hcz7_2
    try clear hfz6_0
    try clear hfz6_1
    try clear hfz6_2
    try clear hfz7_0
    try clear hfz7_1
    try clear hfz7_2
    try clear p2
    obtain ⟨kq, x14_3, rfl, HA, HJ3, BK125, HB⟩ := hcut
    cases kq with
    | zero => exact absurd HA.out (by simp [QC.j1])
    | succ kj3 =>
     have H := HA.out
     clear HA
     simp only [QC.j1] at H
     by_cases c8 : x14_3 = true
     ·subst c8
      have H1 : (if 0 ≤ x5_1 then (if x5_1 < (l0_2.length : Int) then (if (((Qh l0_2 x5_1).f5.f0).length : Int) > 20 then (some false) else (QC.l0 kj3 l1 (wrap64 (x5_1 + 1)) l0_0 l0_1 l0_2)) else (none)) else (none)) = some r := by rw [if_pos rfl] at H; exact H
      clear H
      have H := H1
      clear H1
      by_cases c9 : 0 ≤ x5_1
      ·rw [if_pos c9] at H
       have c9b0 : decide (0 ≤ x5_1) = true := decide_eq_true c9
       clear c9
       by_cases c10 : x5_1 < (l0_2.length : Int)
       ·rw [if_pos c10] at H
        have c10b0 : decide (x5_1 < (l0_2.length : Int)) = true := decide_eq_true c10
        clear c10
        by_cases c11 : (((Qh l0_2 x5_1).f5.f0).length : Int) > 20
        ·rw [if_pos c11] at H
         have c11b0 : decide (20 < (((Qh l0_2 x5_1).f5.f0).length : Int)) = true := decide_eq_true c11
         have c11b1 : decide (20 < ((Qh l0_2 x5_1).f5.f0).length) = true := decide_eq_true (by omega)
         clear c11
         obtain rfl := Option.some.inj H
         have hcz12_0 : wc.cell? ⟨gb125, 0, none⟩ = some (.slice A0_0 l0_0.length c0_0) := (Qe BK125.out 0).trans rfl
         have hcz12_1 : wc.cell? ⟨gb125, 1, none⟩ = some (.slice A0_1 l0_1.length c0_1) := (Qe BK125.out 1).trans rfl
         have hcz12_2 : wc.cell? ⟨gb125, 2, none⟩ = some (.slice A0_2 l0_2.length c0_2) := (Qe BK125.out 2).trans rfl
         have hfz12_0 := Qc BK125.out 0
         have hfz12_1 := Qc BK125.out 1
         have hfz12_2 := Qc BK125.out 2
         have p126 : 0 ≤ (x5_1 : Int) := of_decide_eq_true (by first | (with_reducible assumption) | assumption)
         have q126 : x5_1 < (l0_2.length : Int) := of_decide_eq_true (by first | (with_reducible assumption) | assumption)
         obtain ⟨ad126, A126_5, c126_5, e126, hx126_0, hx126_1, hx126_2, hx126_3, hx126_4, hx126_5, hx126_6, hx126_7, hl126_5, hi126_5⟩ := at_T58 HR0_2.out x5_1 p126 q126
         cases e126
         replace hx126_0 := (HB.out.cell (World.block_lt_of_cell? w _ hx126_0)).trans hx126_0
         replace hx126_1 := (HB.out.cell (World.block_lt_of_cell? w _ hx126_1)).trans hx126_1
         replace hx126_2 := (HB.out.cell (World.block_lt_of_cell? w _ hx126_2)).trans hx126_2
         replace hx126_3 := (HB.out.cell (World.block_lt_of_cell? w _ hx126_3)).trans hx126_3
         replace hx126_4 := (HB.out.cell (World.block_lt_of_cell? w _ hx126_4)).trans hx126_4
         replace hx126_5 := (HB.out.cell (World.block_lt_of_cell? w _ hx126_5)).trans hx126_5
         replace hx126_6 := (HB.out.cell (World.block_lt_of_cell? w _ hx126_6)).trans hx126_6
         replace hx126_7 := (HB.out.cell (World.block_lt_of_cell? w _ hx126_7)).trans hx126_7
         have HR126_5 := Qf.mk hi126_5
         have HC126_5 := Qf.mk hl126_5
         clear hi126_5 hl126_5
         replace p126 := eq_true p126
         replace q126 := eq_true q126
         go_wp2
         go_ret
         exact ⟨by first | rfl | (simp [Qw, Qx] <;> rfl) | (simp [*, Qw, Qx] <;> rfl), by repeat (first | (with_reducible first | exact HB.out | apply Qi | apply Qa | apply Qj | refine Qk ?_ GE125.out) | exact HB.out)⟩
        ·rw [if_neg c11] at H
         have c11b0 : decide (20 < (((Qh l0_2 x5_1).f5.f0).length : Int)) = false := decide_eq_false c11
         have c11b1 : decide (20 < ((Qh l0_2 x5_1).f5.f0).length) = false := decide_eq_false (by omega)
         clear c11
         have H' := Qf.mk H
         clear H
         have hcz13_0 : wc.cell? ⟨gb125, 0, none⟩ = some (.slice A0_0 l0_0.length c0_0) := (Qe BK125.out 0).trans rfl
         have hcz13_1 : wc.cell? ⟨gb125, 1, none⟩ = some (.slice A0_1 l0_1.length c0_1) := (Qe BK125.out 1).trans rfl
         have hcz13_2 : wc.cell? ⟨gb125, 2, none⟩ = some (.slice A0_2 l0_2.length c0_2) := (Qe BK125.out 2).trans rfl
         have hfz13_0 := Qc BK125.out 0
         have hfz13_1 := Qc BK125.out 1
         have hfz13_2 := Qc BK125.out 2
         have p126 : 0 ≤ (x5_1 : Int) := of_decide_eq_true (by first | (with_reducible assumption) | assumption)
         have q126 : x5_1 < (l0_2.length : Int) := of_decide_eq_true (by first | (with_reducible assumption) | assumption)
         obtain ⟨ad126, A126_5, c126_5, e126, hx126_0, hx126_1, hx126_2, hx126_3, hx126_4, hx126_5, hx126_6, hx126_7, hl126_5, hi126_5⟩ := at_T58 HR0_2.out x5_1 p126 q126
         cases e126
         replace hx126_0 := (HB.out.cell (World.block_lt_of_cell? w _ hx126_0)).trans hx126_0
         replace hx126_1 := (HB.out.cell (World.block_lt_of_cell? w _ hx126_1)).trans hx126_1
         replace hx126_2 := (HB.out.cell (World.block_lt_of_cell? w _ hx126_2)).trans hx126_2
         replace hx126_3 := (HB.out.cell (World.block_lt_of_cell? w _ hx126_3)).trans hx126_3
         replace hx126_4 := (HB.out.cell (World.block_lt_of_cell? w _ hx126_4)).trans hx126_4
         replace hx126_5 := (HB.out.cell (World.block_lt_of_cell? w _ hx126_5)).trans hx126_5
         replace hx126_6 := (HB.out.cell (World.block_lt_of_cell? w _ hx126_6)).trans hx126_6
         replace hx126_7 := (HB.out.cell (World.block_lt_of_cell? w _ hx126_7)).trans hx126_7
         have HR126_5 := Qf.mk hi126_5
         have HC126_5 := Qf.mk hl126_5
         clear hi126_5 hl126_5
         replace p126 := eq_true p126
         replace q126 := eq_true q126
         go_wp2
         go_roundg kj3
         case measure => have := HK1.out; have := HJ3.out; omega
         case rel => exact ⟨(wrap64 (x5_1 + 1)), (by first | rfl | (simp; done) | (simp [*]; done)), H', ⟨by have := HK1.out; have := HJ3.out; omega⟩, ⟨by (with_reducible repeat (first | refine Qd ?_ _ | refine Qg ?_ | refine Qb ?_ _)); exact BK125.out⟩, ⟨by repeat (first | (with_reducible first | exact HB.out | apply Qi | apply Qa | apply Qj | refine Qk ?_ GE125.out) | exact HB.out)⟩⟩
       ·rw [if_neg c10] at H
        exact absurd H (by simp)
      ·rw [if_neg c9] at H
       exact absurd H (by simp)
     ·replace c8 := Bool.eq_false_iff.mpr c8
      subst c8
      have H1 : (if (l0_2.length : Int) ≤ 10 then (if (l0_0.length : Int) ≤ 12 then (if (l0_1.length : Int) ≤ 12 then (some (decide ((l1.length : Int) ≤ 20))) else (some false)) else (some false)) else (some false)) = some r := by rw [if_neg (show ¬ (false = true) by decide)] at H; exact H
      clear H
      have H := H1
      clear H1
      by_cases c14 : (l0_2.length : Int) ≤ 10
      ·rw [if_pos c14] at H
       have c14b0 : decide ((l0_2.length : Int) ≤ 10) = true := decide_eq_true c14
       have c14b1 : decide (l0_2.length ≤ 10) = true := decide_eq_true (by omega)
       clear c14
       by_cases c15 : (l0_0.length : Int) ≤ 12
       ·rw [if_pos c15] at H
        have c15b0 : decide ((l0_0.length : Int) ≤ 12) = true := decide_eq_true c15
        have c15b1 : decide (l0_0.length ≤ 12) = true := decide_eq_true (by omega)
        clear c15
        by_cases c16 : (l0_1.length : Int) ≤ 12
        ·rw [if_pos c16] at H
         have c16b0 : decide ((l0_1.length : Int) ≤ 12) = true := decide_eq_true c16
         have c16b1 : decide (l0_1.length ≤ 12) = true := decide_eq_true (by omega)
         clear c16
         obtain rfl := Option.some.inj H
         have hcz17_0 : wc.cell? ⟨gb125, 0, none⟩ = some (.slice A0_0 l0_0.length c0_0) := (Qe BK125.out 0).trans rfl
         have hcz17_1 : wc.cell? ⟨gb125, 1, none⟩ = some (.slice A0_1 l0_1.length c0_1) := (Qe BK125.out 1).trans rfl
         have hcz17_2 : wc.cell? ⟨gb125, 2, none⟩ = some (.slice A0_2 l0_2.length c0_2) := (Qe BK125.out 2).trans rfl
         have hfz17_0 := Qc BK125.out 0
         have hfz17_1 := Qc BK125.out 1
         have hfz17_2 := Qc BK125.out 2
         go_wp2
         go_ret
         exact ⟨by first | rfl | (simp [Qw, Qx] <;> rfl) | (simp [*, Qw, Qx] <;> rfl), by repeat (first | (with_reducible first | exact HB.out | apply Qi | apply Qa | apply Qj | refine Qk ?_ GE125.out) | exact HB.out)⟩
        ·rw [if_neg c16] at H
         have c16b0 : decide ((l0_1.length : Int) ≤ 12) = false := decide_eq_false c16
         have c16b1 : decide (l0_1.length ≤ 12) = false := decide_eq_false (by omega)
         clear c16
         obtain rfl := Option.some.inj H
         have hcz18_0 : wc.cell? ⟨gb125, 0, none⟩ = some (.slice A0_0 l0_0.length c0_0) := (Qe BK125.out 0).trans rfl
         have hcz18_1 : wc.cell? ⟨gb125, 1, none⟩ = some (.slice A0_1 l0_1.length c0_1) := (Qe BK125.out 1).trans rfl
         have hcz18_2 : wc.cell? ⟨gb125, 2, none⟩ = some (.slice A0_2 l0_2.length c0_2) := (Qe BK125.out 2).trans rfl
         have hfz18_0 := Qc BK125.out 0
         have hfz18_1 := Qc BK125.out 1
         have hfz18_2 := Qc BK125.out 2
         go_wp2
         go_ret
         exact ⟨by first | rfl | (simp [Qw, Qx] <;> rfl) | (simp [*, Qw, Qx] <;> rfl), by repeat (first | (with_reducible first | exact HB.out | apply Qi | apply Qa | apply Qj | refine Qk ?_ GE125.out) | exact HB.out)⟩
       ·rw [if_neg c15] at H
        have c15b0 : decide ((l0_0.length : Int) ≤ 12) = false := decide_eq_false c15
        have c15b1 : decide (l0_0.length ≤ 12) = false := decide_eq_false (by omega)
        clear c15
        obtain rfl := Option.some.inj H
        have hcz19_0 : wc.cell? ⟨gb125, 0, none⟩ = some (.slice A0_0 l0_0.length c0_0) := (Qe BK125.out 0).trans rfl
        have hcz19_1 : wc.cell? ⟨gb125, 1, none⟩ = some (.slice A0_1 l0_1.length c0_1) := (Qe BK125.out 1).trans rfl
        have hcz19_2 : wc.cell? ⟨gb125, 2, none⟩ = some (.slice A0_2 l0_2.length c0_2) := (Qe BK125.out 2).trans rfl
        have hfz19_0 := Qc BK125.out 0
        have hfz19_1 := Qc BK125.out 1
        have hfz19_2 := Qc BK125.out 2
        go_wp2
        go_ret
        exact ⟨by first | rfl | (simp [Qw, Qx] <;> rfl) | (simp [*, Qw, Qx] <;> rfl), by repeat (first | (with_reducible first | exact HB.out | apply Qi | apply Qa | apply Qj | refine Qk ?_ GE125.out) | exact HB.out)⟩
      ·rw [if_neg c14] at H
       have c14b0 : decide ((l0_2.length : Int) ≤ 10) = false := decide_eq_false c14
       have c14b1 : decide (l0_2.length ≤ 10) = false := decide_eq_false (by omega)
       clear c14
       obtain rfl := Option.some.inj H
       have hcz20_0 : wc.cell? ⟨gb125, 0, none⟩ = some (.slice A0_0 l0_0.length c0_0) := (Qe BK125.out 0).trans rfl
       have hcz20_1 : wc.cell? ⟨gb125, 1, none⟩ = some (.slice A0_1 l0_1.length c0_1) := (Qe BK125.out 1).trans rfl
       have hcz20_2 : wc.cell? ⟨gb125, 2, none⟩ = some (.slice A0_2 l0_2.length c0_2) := (Qe BK125.out 2).trans rfl
       have hfz20_0 := Qc BK125.out 0
       have hfz20_1 := Qc BK125.out 1
       have hfz20_2 := Qc BK125.out 2
       go_wp2
       go_ret
       exact ⟨by first | rfl | (simp [Qw, Qx] <;> rfl) | (simp [*, Qw, Qx] <;> rfl), by repeat (first | (with_reducible first | exact HB.out | apply Qi | apply Qa | apply Qj | refine Qk ?_ GE125.out) | exact HB.out)⟩

end Go.Proofs.Ytbkfjmpnbalkaaa.QTurnsPieces
