-- Written by a program of this session (wip/ext.py) with the kit's print; Lean checks it.
import Derived.Test.YtbkfjmpnbalkaaaQTurnsPiecesx0
import Derived.Test.YtbkfjmpnbalkaaaQTurnsPiecesx3
import Derived.Test.YtbkfjmpnbalkaaaQTurnsPiecesx9
namespace Go.Proofs.Ytbkfjmpnbalkaaa.QTurnsPieces
open Go.RowKit Go.Proofs.YtbkfjmpnbalkaaaW.PrintWords Go.Proofs.YtbkfjmpnbalkaaaW.PrintLast Go.Proofs.YtbkfjmpnbalkaaaW.PrintMore
attribute [local go_sem] max2_int min2_int max_two min_two max_three min_three max_four min_four   -- for this text's walks alone
set_option linter.unusedVariables false
set_option linter.unusedSimpArgs false

/-! ### mapmakerref47_back: function 39 -/
def mapmakerref47_back.f (a0_0 : Int) (a0_1 : Int) (a0_2 : Int) (a0_3 : Int) (a0_4 : Int) (l0_5 : List (S120)) (a0_6 : Int) (a0_7 : Int) (a1_0 : Int) (a1_1 : Int) (a1_2 : Int) (a1_3 : Int) (a1_4 : Int) (l1_5 : List (S120)) (a1_6 : Int) (a1_7 : Int) : Option (Bool) := if a1_0 = a0_1 then (if a1_1 = a0_0 then (some (a1_2 == a0_2)) else (some false)) else (some false)
set_option maxHeartbeats 8000000 in
set_option maxRecDepth 100000 in
theorem mapmakerref47_back.calls (a0_0 : Int) (a0_1 : Int) (a0_2 : Int) (a0_3 : Int) (a0_4 : Int) (A0_5 : Option Addr) (c0_5 : Nat) (l0_5 : List (S120)) (a0_6 : Int) (a0_7 : Int) (a1_0 : Int) (a1_1 : Int) (a1_2 : Int) (a1_3 : Int) (a1_4 : Int) (A1_5 : Option Addr) (c1_5 : Nat) (l1_5 : List (S120)) (a1_6 : Int) (a1_7 : Int) (r : Bool) (w : World) (hr0_5 : Kd.C k120 w A0_5 l0_5.length l0_5) (hc0_5 : l0_5.length ≤ c0_5) (hr1_5 : Kd.C k120 w A1_5 l1_5.length l1_5) (hc1_5 : l1_5.length ≤ c1_5) (h : mapmakerref47_back.f a0_0 a0_1 a0_2 a0_3 a0_4 l0_5 a0_6 a0_7 a1_0 a1_1 a1_2 a1_3 a1_4 l1_5 a1_6 a1_7 = some r) :
  Calls Try.prog 39 #[.agg #[.int .i64 a0_0, .int .i64 a0_1, .int .i64 a0_2, .int .i64 a0_3, .int .i64 a0_4, .slice A0_5 l0_5.length c0_5, .int .i64 a0_6, .int .i64 a0_7], .agg #[.int .i64 a1_0, .int .i64 a1_1, .int .i64 a1_2, .int .i64 a1_3, .int .i64 a1_4, .slice A1_5 l1_5.length c1_5, .int .i64 a1_6, .int .i64 a1_7]] w fun e w' => e = .returned (.bool r) ∧ Below w.heap.size w w' := by
 have hu58 := Try.underlying58
 have HR0_5 := Qf.mk hr0_5
 have HC0_5 := Qf.mk hc0_5
 clear hr0_5 hc0_5
 have HR1_5 := Qf.mk hr1_5
 have HC1_5 := Qf.mk hc1_5
 clear hr1_5 hc1_5
 have HB := Qf.mk (Below.refl w.heap.size w)
 have H : (if a1_0 = a0_1 then (if a1_1 = a0_0 then (some (a1_2 == a0_2)) else (some false)) else (some false)) = some r := h
 clear h
 by_cases c3 : a1_0 = a0_1
 ·rw [if_pos c3] at H
  have c3b0 : (a1_0 == a0_1) = true := beq_iff_eq.mpr c3
  have c3b1 : (a1_0 != a0_1) = false := bne_eq_false_iff_eq.mpr c3
  clear c3
  by_cases c4 : a1_1 = a0_0
  ·rw [if_pos c4] at H
   have c4b0 : (a1_1 == a0_0) = true := beq_iff_eq.mpr c4
   have c4b1 : (a1_1 != a0_0) = false := bne_eq_false_iff_eq.mpr c4
   clear c4
   obtain rfl := Option.some.inj H
   go_enter Try.func39, Try.ntmps39
   go_wp2_with (first | ((with_reducible refine QM (N := 2) rfl ?_); refine QI ?hg (N := 2) ?hd (cs := #[.int .i64 a0_0, .int .i64 a0_1, .int .i64 a0_2, .int .i64 a0_3, .int .i64 a0_4, .slice A0_5 l0_5.length c0_5, .int .i64 a0_6, .int .i64 a0_7]) (t := 58) ?hr ?_; (case hd => rfl); (case hg => rfl); (case hr => first | (go_simp; done) | (go_simp; rfl)); intro gb149 hg w5 hbox hb; have n0_ := Qf.mk (Qo (by repeat (first | (with_reducible first | exact HB.out | apply Qi | apply Qa | apply Qj) | exact HB.out)) hb); have n1_ := Qf.mk (hbox); have n2_ := Qf.mk ((by rw [hg]; exact (Qp (by repeat (first | (with_reducible first | exact HB.out | apply Qi | apply Qa | apply Qj) | exact HB.out))) : w.heap.size ≤ gb149)); have n3_ := Qf.mk ((by rw [hg]; exact (Qp (by repeat (first | (with_reducible first | exact HB.out | apply Qi | apply Qa | apply Qj) | exact HB.out))) : w.heap.size ≤ gb149)); clear HB; have HB := n0_; have BK149 := n1_; have GW149 := n2_; have GE149 := n3_; clear n0_ n1_ n2_ n3_; clear hb hbox hg) | ((with_reducible refine QM (N := 3) rfl ?_); refine QI ?hg (N := 3) ?hd (cs := #[.int .i64 a1_0, .int .i64 a1_1, .int .i64 a1_2, .int .i64 a1_3, .int .i64 a1_4, .slice A1_5 l1_5.length c1_5, .int .i64 a1_6, .int .i64 a1_7]) (t := 58) ?hr ?_; (case hd => rfl); (case hg => rfl); (case hr => first | (go_simp; done) | (go_simp; rfl)); intro gb150 hg w6 hbox hb; have n0_ := Qf.mk (QF (g := gb149) (o := .cells #[.int .i64 a0_0, .int .i64 a0_1, .int .i64 a0_2, .int .i64 a0_3, .int .i64 a0_4, .slice A0_5 l0_5.length c0_5, .int .i64 a0_6, .int .i64 a0_7] 58 (0, 0)) (by (with_reducible repeat (first | refine Qd ?_ _ | refine Qg ?_ | refine Qb ?_ _)); exact BK149.out) hb); have n1_ := Qf.mk (Qo (by repeat (first | (with_reducible first | exact HB.out | apply Qi | apply Qa | apply Qj | refine Qk ?_ GE149.out) | exact HB.out)) hb); have n2_ := Qf.mk (hbox); have n3_ := Qf.mk ((by rw [hg]; exact (Qp (by repeat (first | (with_reducible first | exact HB.out | apply Qi | apply Qa | apply Qj | refine Qk ?_ GE149.out) | exact HB.out))) : w.heap.size ≤ gb150)); have n4_ := Qf.mk ((by rw [hg]; exact (Qp (by repeat (first | (with_reducible first | exact HB.out | apply Qi | apply Qa | apply Qj | refine Qk ?_ GE149.out) | exact HB.out))) : w.heap.size ≤ gb150)); have n5_ := Qf.mk ((by rw [hg]; exact Nat.ne_of_lt (QR (g := gb149) (o := .cells #[.int .i64 a0_0, .int .i64 a0_1, .int .i64 a0_2, .int .i64 a0_3, .int .i64 a0_4, .slice A0_5 l0_5.length c0_5, .int .i64 a0_6, .int .i64 a0_7] 58 (0, 0)) (by (with_reducible repeat (first | refine Qd ?_ _ | refine Qg ?_ | refine Qb ?_ _)); exact BK149.out)) : gb149 ≠ gb150)); have n6_ := Qf.mk ((by rw [hg]; exact Nat.ne_of_gt (QR (g := gb149) (o := .cells #[.int .i64 a0_0, .int .i64 a0_1, .int .i64 a0_2, .int .i64 a0_3, .int .i64 a0_4, .slice A0_5 l0_5.length c0_5, .int .i64 a0_6, .int .i64 a0_7] 58 (0, 0)) (by (with_reducible repeat (first | refine Qd ?_ _ | refine Qg ?_ | refine Qb ?_ _)); exact BK149.out)) : gb150 ≠ gb149)); clear BK149; clear HB; have BK149 := n0_; have HB := n1_; have BK150 := n2_; have GW150 := n3_; have GE150 := n4_; have NB149_150 := n5_; have NB150_149 := n6_; clear n0_ n1_ n2_ n3_ n4_ n5_ n6_; clear hb hbox hg; have hnb7 := NB150_149.out; have hnc7 := NB149_150.out; have hcz8_0 : w6.cell? ⟨gb150, 0, none⟩ = some (.int .i64 a1_0) := (Qe BK150.out 0).trans rfl; have hcz8_1 : w6.cell? ⟨gb150, 1, none⟩ = some (.int .i64 a1_1) := (Qe BK150.out 1).trans rfl; have hcz8_2 : w6.cell? ⟨gb150, 2, none⟩ = some (.int .i64 a1_2) := (Qe BK150.out 2).trans rfl; have hcz8_3 : w6.cell? ⟨gb150, 3, none⟩ = some (.int .i64 a1_3) := (Qe BK150.out 3).trans rfl; have hcz8_4 : w6.cell? ⟨gb150, 4, none⟩ = some (.int .i64 a1_4) := (Qe BK150.out 4).trans rfl; have hcz8_5 : w6.cell? ⟨gb150, 5, none⟩ = some (.slice A1_5 l1_5.length c1_5) := (Qe BK150.out 5).trans rfl; have hcz8_6 : w6.cell? ⟨gb150, 6, none⟩ = some (.int .i64 a1_6) := (Qe BK150.out 6).trans rfl; have hcz8_7 : w6.cell? ⟨gb150, 7, none⟩ = some (.int .i64 a1_7) := (Qe BK150.out 7).trans rfl; have hfz8_0 := Qc BK150.out 0; have hfz8_1 := Qc BK150.out 1; have hfz8_2 := Qc BK150.out 2; have hfz8_3 := Qc BK150.out 3; have hfz8_4 := Qc BK150.out 4; have hfz8_5 := Qc BK150.out 5; have hfz8_6 := Qc BK150.out 6; have hfz8_7 := Qc BK150.out 7; have hcz9_0 : w6.cell? ⟨gb149, 0, none⟩ = some (.int .i64 a0_0) := (Qe BK149.out 0).trans rfl; have hcz9_1 : w6.cell? ⟨gb149, 1, none⟩ = some (.int .i64 a0_1) := (Qe BK149.out 1).trans rfl; have hcz9_2 : w6.cell? ⟨gb149, 2, none⟩ = some (.int .i64 a0_2) := (Qe BK149.out 2).trans rfl; have hcz9_3 : w6.cell? ⟨gb149, 3, none⟩ = some (.int .i64 a0_3) := (Qe BK149.out 3).trans rfl; have hcz9_4 : w6.cell? ⟨gb149, 4, none⟩ = some (.int .i64 a0_4) := (Qe BK149.out 4).trans rfl; have hcz9_5 : w6.cell? ⟨gb149, 5, none⟩ = some (.slice A0_5 l0_5.length c0_5) := (Qe BK149.out 5).trans rfl; have hcz9_6 : w6.cell? ⟨gb149, 6, none⟩ = some (.int .i64 a0_6) := (Qe BK149.out 6).trans rfl; have hcz9_7 : w6.cell? ⟨gb149, 7, none⟩ = some (.int .i64 a0_7) := (Qe BK149.out 7).trans rfl; have hfz9_0 := Qc BK149.out 0; have hfz9_1 := Qc BK149.out 1; have hfz9_2 := Qc BK149.out 2; have hfz9_3 := Qc BK149.out 3; have hfz9_4 := Qc BK149.out 4; have hfz9_5 := Qc BK149.out 5; have hfz9_6 := Qc BK149.out 6; have hfz9_7 := Qc BK149.out 7))
   go_ret
   exact ⟨by first | rfl | (simp [Qw, Qx] <;> rfl) | (simp [*, Qw, Qx] <;> rfl), by repeat (first | (with_reducible first | exact HB.out | apply Qi | apply Qa | apply Qj | refine Qk ?_ GE149.out | refine Qk ?_ GE150.out) | exact HB.out)⟩
  ·rw [if_neg c4] at H
   have c4b0 : (a1_1 == a0_0) = false := beq_eq_false_iff_ne.mpr c4
   have c4b1 : (a1_1 != a0_0) = true := bne_iff_ne.mpr c4
   obtain rfl := Option.some.inj H
   go_enter Try.func39, Try.ntmps39
   go_wp2_with (first | ((with_reducible refine QM (N := 2) rfl ?_); refine QI ?hg (N := 2) ?hd (cs := #[.int .i64 a0_0, .int .i64 a0_1, .int .i64 a0_2, .int .i64 a0_3, .int .i64 a0_4, .slice A0_5 l0_5.length c0_5, .int .i64 a0_6, .int .i64 a0_7]) (t := 58) ?hr ?_; (case hd => rfl); (case hg => rfl); (case hr => first | (go_simp; done) | (go_simp; rfl)); intro gb149 hg w10 hbox hb; have n0_ := Qf.mk (Qo (by repeat (first | (with_reducible first | exact HB.out | apply Qi | apply Qa | apply Qj) | exact HB.out)) hb); have n1_ := Qf.mk (hbox); have n2_ := Qf.mk ((by rw [hg]; exact (Qp (by repeat (first | (with_reducible first | exact HB.out | apply Qi | apply Qa | apply Qj) | exact HB.out))) : w.heap.size ≤ gb149)); have n3_ := Qf.mk ((by rw [hg]; exact (Qp (by repeat (first | (with_reducible first | exact HB.out | apply Qi | apply Qa | apply Qj) | exact HB.out))) : w.heap.size ≤ gb149)); clear HB; have HB := n0_; have BK149 := n1_; have GW149 := n2_; have GE149 := n3_; clear n0_ n1_ n2_ n3_; clear hb hbox hg) | ((with_reducible refine QM (N := 3) rfl ?_); refine QI ?hg (N := 3) ?hd (cs := #[.int .i64 a1_0, .int .i64 a1_1, .int .i64 a1_2, .int .i64 a1_3, .int .i64 a1_4, .slice A1_5 l1_5.length c1_5, .int .i64 a1_6, .int .i64 a1_7]) (t := 58) ?hr ?_; (case hd => rfl); (case hg => rfl); (case hr => first | (go_simp; done) | (go_simp; rfl)); intro gb150 hg w11 hbox hb; have n0_ := Qf.mk (QF (g := gb149) (o := .cells #[.int .i64 a0_0, .int .i64 a0_1, .int .i64 a0_2, .int .i64 a0_3, .int .i64 a0_4, .slice A0_5 l0_5.length c0_5, .int .i64 a0_6, .int .i64 a0_7] 58 (0, 0)) (by (with_reducible repeat (first | refine Qd ?_ _ | refine Qg ?_ | refine Qb ?_ _)); exact BK149.out) hb); have n1_ := Qf.mk (Qo (by repeat (first | (with_reducible first | exact HB.out | apply Qi | apply Qa | apply Qj | refine Qk ?_ GE149.out) | exact HB.out)) hb); have n2_ := Qf.mk (hbox); have n3_ := Qf.mk ((by rw [hg]; exact (Qp (by repeat (first | (with_reducible first | exact HB.out | apply Qi | apply Qa | apply Qj | refine Qk ?_ GE149.out) | exact HB.out))) : w.heap.size ≤ gb150)); have n4_ := Qf.mk ((by rw [hg]; exact (Qp (by repeat (first | (with_reducible first | exact HB.out | apply Qi | apply Qa | apply Qj | refine Qk ?_ GE149.out) | exact HB.out))) : w.heap.size ≤ gb150)); have n5_ := Qf.mk ((by rw [hg]; exact Nat.ne_of_lt (QR (g := gb149) (o := .cells #[.int .i64 a0_0, .int .i64 a0_1, .int .i64 a0_2, .int .i64 a0_3, .int .i64 a0_4, .slice A0_5 l0_5.length c0_5, .int .i64 a0_6, .int .i64 a0_7] 58 (0, 0)) (by (with_reducible repeat (first | refine Qd ?_ _ | refine Qg ?_ | refine Qb ?_ _)); exact BK149.out)) : gb149 ≠ gb150)); have n6_ := Qf.mk ((by rw [hg]; exact Nat.ne_of_gt (QR (g := gb149) (o := .cells #[.int .i64 a0_0, .int .i64 a0_1, .int .i64 a0_2, .int .i64 a0_3, .int .i64 a0_4, .slice A0_5 l0_5.length c0_5, .int .i64 a0_6, .int .i64 a0_7] 58 (0, 0)) (by (with_reducible repeat (first | refine Qd ?_ _ | refine Qg ?_ | refine Qb ?_ _)); exact BK149.out)) : gb150 ≠ gb149)); clear BK149; clear HB; have BK149 := n0_; have HB := n1_; have BK150 := n2_; have GW150 := n3_; have GE150 := n4_; have NB149_150 := n5_; have NB150_149 := n6_; clear n0_ n1_ n2_ n3_ n4_ n5_ n6_; clear hb hbox hg; have hnb12 := NB150_149.out; have hnc12 := NB149_150.out; have hcz13_0 : w11.cell? ⟨gb150, 0, none⟩ = some (.int .i64 a1_0) := (Qe BK150.out 0).trans rfl; have hcz13_1 : w11.cell? ⟨gb150, 1, none⟩ = some (.int .i64 a1_1) := (Qe BK150.out 1).trans rfl; have hcz13_2 : w11.cell? ⟨gb150, 2, none⟩ = some (.int .i64 a1_2) := (Qe BK150.out 2).trans rfl; have hcz13_3 : w11.cell? ⟨gb150, 3, none⟩ = some (.int .i64 a1_3) := (Qe BK150.out 3).trans rfl; have hcz13_4 : w11.cell? ⟨gb150, 4, none⟩ = some (.int .i64 a1_4) := (Qe BK150.out 4).trans rfl; have hcz13_5 : w11.cell? ⟨gb150, 5, none⟩ = some (.slice A1_5 l1_5.length c1_5) := (Qe BK150.out 5).trans rfl; have hcz13_6 : w11.cell? ⟨gb150, 6, none⟩ = some (.int .i64 a1_6) := (Qe BK150.out 6).trans rfl; have hcz13_7 : w11.cell? ⟨gb150, 7, none⟩ = some (.int .i64 a1_7) := (Qe BK150.out 7).trans rfl; have hfz13_0 := Qc BK150.out 0; have hfz13_1 := Qc BK150.out 1; have hfz13_2 := Qc BK150.out 2; have hfz13_3 := Qc BK150.out 3; have hfz13_4 := Qc BK150.out 4; have hfz13_5 := Qc BK150.out 5; have hfz13_6 := Qc BK150.out 6; have hfz13_7 := Qc BK150.out 7; have hcz14_0 : w11.cell? ⟨gb149, 0, none⟩ = some (.int .i64 a0_0) := (Qe BK149.out 0).trans rfl; have hcz14_1 : w11.cell? ⟨gb149, 1, none⟩ = some (.int .i64 a0_1) := (Qe BK149.out 1).trans rfl; have hcz14_2 : w11.cell? ⟨gb149, 2, none⟩ = some (.int .i64 a0_2) := (Qe BK149.out 2).trans rfl; have hcz14_3 : w11.cell? ⟨gb149, 3, none⟩ = some (.int .i64 a0_3) := (Qe BK149.out 3).trans rfl; have hcz14_4 : w11.cell? ⟨gb149, 4, none⟩ = some (.int .i64 a0_4) := (Qe BK149.out 4).trans rfl; have hcz14_5 : w11.cell? ⟨gb149, 5, none⟩ = some (.slice A0_5 l0_5.length c0_5) := (Qe BK149.out 5).trans rfl; have hcz14_6 : w11.cell? ⟨gb149, 6, none⟩ = some (.int .i64 a0_6) := (Qe BK149.out 6).trans rfl; have hcz14_7 : w11.cell? ⟨gb149, 7, none⟩ = some (.int .i64 a0_7) := (Qe BK149.out 7).trans rfl; have hfz14_0 := Qc BK149.out 0; have hfz14_1 := Qc BK149.out 1; have hfz14_2 := Qc BK149.out 2; have hfz14_3 := Qc BK149.out 3; have hfz14_4 := Qc BK149.out 4; have hfz14_5 := Qc BK149.out 5; have hfz14_6 := Qc BK149.out 6; have hfz14_7 := Qc BK149.out 7))
   go_ret
   exact ⟨by first | rfl | (simp [Qw, Qx] <;> rfl) | (simp [*, Qw, Qx] <;> rfl), by repeat (first | (with_reducible first | exact HB.out | apply Qi | apply Qa | apply Qj | refine Qk ?_ GE149.out | refine Qk ?_ GE150.out) | exact HB.out)⟩
 ·rw [if_neg c3] at H
  have c3b0 : (a1_0 == a0_1) = false := beq_eq_false_iff_ne.mpr c3
  have c3b1 : (a1_0 != a0_1) = true := bne_iff_ne.mpr c3
  obtain rfl := Option.some.inj H
  go_enter Try.func39, Try.ntmps39
  go_wp2_with (first | ((with_reducible refine QM (N := 2) rfl ?_); refine QI ?hg (N := 2) ?hd (cs := #[.int .i64 a0_0, .int .i64 a0_1, .int .i64 a0_2, .int .i64 a0_3, .int .i64 a0_4, .slice A0_5 l0_5.length c0_5, .int .i64 a0_6, .int .i64 a0_7]) (t := 58) ?hr ?_; (case hd => rfl); (case hg => rfl); (case hr => first | (go_simp; done) | (go_simp; rfl)); intro gb149 hg w15 hbox hb; have n0_ := Qf.mk (Qo (by repeat (first | (with_reducible first | exact HB.out | apply Qi | apply Qa | apply Qj) | exact HB.out)) hb); have n1_ := Qf.mk (hbox); have n2_ := Qf.mk ((by rw [hg]; exact (Qp (by repeat (first | (with_reducible first | exact HB.out | apply Qi | apply Qa | apply Qj) | exact HB.out))) : w.heap.size ≤ gb149)); have n3_ := Qf.mk ((by rw [hg]; exact (Qp (by repeat (first | (with_reducible first | exact HB.out | apply Qi | apply Qa | apply Qj) | exact HB.out))) : w.heap.size ≤ gb149)); clear HB; have HB := n0_; have BK149 := n1_; have GW149 := n2_; have GE149 := n3_; clear n0_ n1_ n2_ n3_; clear hb hbox hg) | ((with_reducible refine QM (N := 3) rfl ?_); refine QI ?hg (N := 3) ?hd (cs := #[.int .i64 a1_0, .int .i64 a1_1, .int .i64 a1_2, .int .i64 a1_3, .int .i64 a1_4, .slice A1_5 l1_5.length c1_5, .int .i64 a1_6, .int .i64 a1_7]) (t := 58) ?hr ?_; (case hd => rfl); (case hg => rfl); (case hr => first | (go_simp; done) | (go_simp; rfl)); intro gb150 hg w16 hbox hb; have n0_ := Qf.mk (QF (g := gb149) (o := .cells #[.int .i64 a0_0, .int .i64 a0_1, .int .i64 a0_2, .int .i64 a0_3, .int .i64 a0_4, .slice A0_5 l0_5.length c0_5, .int .i64 a0_6, .int .i64 a0_7] 58 (0, 0)) (by (with_reducible repeat (first | refine Qd ?_ _ | refine Qg ?_ | refine Qb ?_ _)); exact BK149.out) hb); have n1_ := Qf.mk (Qo (by repeat (first | (with_reducible first | exact HB.out | apply Qi | apply Qa | apply Qj | refine Qk ?_ GE149.out) | exact HB.out)) hb); have n2_ := Qf.mk (hbox); have n3_ := Qf.mk ((by rw [hg]; exact (Qp (by repeat (first | (with_reducible first | exact HB.out | apply Qi | apply Qa | apply Qj | refine Qk ?_ GE149.out) | exact HB.out))) : w.heap.size ≤ gb150)); have n4_ := Qf.mk ((by rw [hg]; exact (Qp (by repeat (first | (with_reducible first | exact HB.out | apply Qi | apply Qa | apply Qj | refine Qk ?_ GE149.out) | exact HB.out))) : w.heap.size ≤ gb150)); have n5_ := Qf.mk ((by rw [hg]; exact Nat.ne_of_lt (QR (g := gb149) (o := .cells #[.int .i64 a0_0, .int .i64 a0_1, .int .i64 a0_2, .int .i64 a0_3, .int .i64 a0_4, .slice A0_5 l0_5.length c0_5, .int .i64 a0_6, .int .i64 a0_7] 58 (0, 0)) (by (with_reducible repeat (first | refine Qd ?_ _ | refine Qg ?_ | refine Qb ?_ _)); exact BK149.out)) : gb149 ≠ gb150)); have n6_ := Qf.mk ((by rw [hg]; exact Nat.ne_of_gt (QR (g := gb149) (o := .cells #[.int .i64 a0_0, .int .i64 a0_1, .int .i64 a0_2, .int .i64 a0_3, .int .i64 a0_4, .slice A0_5 l0_5.length c0_5, .int .i64 a0_6, .int .i64 a0_7] 58 (0, 0)) (by (with_reducible repeat (first | refine Qd ?_ _ | refine Qg ?_ | refine Qb ?_ _)); exact BK149.out)) : gb150 ≠ gb149)); clear BK149; clear HB; have BK149 := n0_; have HB := n1_; have BK150 := n2_; have GW150 := n3_; have GE150 := n4_; have NB149_150 := n5_; have NB150_149 := n6_; clear n0_ n1_ n2_ n3_ n4_ n5_ n6_; clear hb hbox hg; have hnb17 := NB150_149.out; have hnc17 := NB149_150.out; have hcz18_0 : w16.cell? ⟨gb150, 0, none⟩ = some (.int .i64 a1_0) := (Qe BK150.out 0).trans rfl; have hcz18_1 : w16.cell? ⟨gb150, 1, none⟩ = some (.int .i64 a1_1) := (Qe BK150.out 1).trans rfl; have hcz18_2 : w16.cell? ⟨gb150, 2, none⟩ = some (.int .i64 a1_2) := (Qe BK150.out 2).trans rfl; have hcz18_3 : w16.cell? ⟨gb150, 3, none⟩ = some (.int .i64 a1_3) := (Qe BK150.out 3).trans rfl; have hcz18_4 : w16.cell? ⟨gb150, 4, none⟩ = some (.int .i64 a1_4) := (Qe BK150.out 4).trans rfl; have hcz18_5 : w16.cell? ⟨gb150, 5, none⟩ = some (.slice A1_5 l1_5.length c1_5) := (Qe BK150.out 5).trans rfl; have hcz18_6 : w16.cell? ⟨gb150, 6, none⟩ = some (.int .i64 a1_6) := (Qe BK150.out 6).trans rfl; have hcz18_7 : w16.cell? ⟨gb150, 7, none⟩ = some (.int .i64 a1_7) := (Qe BK150.out 7).trans rfl; have hfz18_0 := Qc BK150.out 0; have hfz18_1 := Qc BK150.out 1; have hfz18_2 := Qc BK150.out 2; have hfz18_3 := Qc BK150.out 3; have hfz18_4 := Qc BK150.out 4; have hfz18_5 := Qc BK150.out 5; have hfz18_6 := Qc BK150.out 6; have hfz18_7 := Qc BK150.out 7; have hcz19_0 : w16.cell? ⟨gb149, 0, none⟩ = some (.int .i64 a0_0) := (Qe BK149.out 0).trans rfl; have hcz19_1 : w16.cell? ⟨gb149, 1, none⟩ = some (.int .i64 a0_1) := (Qe BK149.out 1).trans rfl; have hcz19_2 : w16.cell? ⟨gb149, 2, none⟩ = some (.int .i64 a0_2) := (Qe BK149.out 2).trans rfl; have hcz19_3 : w16.cell? ⟨gb149, 3, none⟩ = some (.int .i64 a0_3) := (Qe BK149.out 3).trans rfl; have hcz19_4 : w16.cell? ⟨gb149, 4, none⟩ = some (.int .i64 a0_4) := (Qe BK149.out 4).trans rfl; have hcz19_5 : w16.cell? ⟨gb149, 5, none⟩ = some (.slice A0_5 l0_5.length c0_5) := (Qe BK149.out 5).trans rfl; have hcz19_6 : w16.cell? ⟨gb149, 6, none⟩ = some (.int .i64 a0_6) := (Qe BK149.out 6).trans rfl; have hcz19_7 : w16.cell? ⟨gb149, 7, none⟩ = some (.int .i64 a0_7) := (Qe BK149.out 7).trans rfl; have hfz19_0 := Qc BK149.out 0; have hfz19_1 := Qc BK149.out 1; have hfz19_2 := Qc BK149.out 2; have hfz19_3 := Qc BK149.out 3; have hfz19_4 := Qc BK149.out 4; have hfz19_5 := Qc BK149.out 5; have hfz19_6 := Qc BK149.out 6; have hfz19_7 := Qc BK149.out 7))
  go_ret
  exact ⟨by first | rfl | (simp [Qw, Qx] <;> rfl) | (simp [*, Qw, Qx] <;> rfl), by repeat (first | (with_reducible first | exact HB.out | apply Qi | apply Qa | apply Qj | refine Qk ?_ GE149.out | refine Qk ?_ GE150.out) | exact HB.out)⟩

/-! ### QN: function 15 (a contract of our own) -/

def refB (l0_0 : List Int) (l0_2 : List S58) (l1 : List S42) (p q : S58) : Bool :=
 !(decide (q.f0 = p.f1 ∧ q.f1 = p.f0 ∧ q.f2 = p.f2) && l0_2.any (fun x => decide (x.f0 = p.f1) && !decide (x.f0 = p.f1 ∧ x.f1 = p.f0 ∧ x.f2 = p.f2))) && pcScan p.f2 (rd l0_0 p.f1) q.f2 l1 false false
def QN.f (k : Nat) (l0_0 : List Int) (l0_1 : List (S158)) (l0_2 : List (S58)) (l1 : List (S42)) (a2 : Int) (a3 : Int) : Option (Bool) :=
 (Qn.f k l0_0 l0_1 l0_2).bind fun e => if e = 0 then (if a2 < 0 then some false else if a3 < 0 then some false else if a2 ≥ (l0_2.length : Int) then some false else if a3 ≥ (l0_2.length : Int) then some false else if (Qh l0_2 a2).f1 = (Qh l0_2 a3).f0 then (if 0 ≤ (Qh l0_2 a2).f1 ∧ (Qh l0_2 a2).f1 < (l0_0.length : Int) then some (refB l0_0 l0_2 l1 (Qh l0_2 a2) (Qh l0_2 a3)) else none) else some false) else some false
theorem QN.mono : ∀ a0 a1 a2 a3 a4 a5 k, LeO (QN.f k a0 a1 a2 a3 a4 a5) (QN.f (k + 1) a0 a1 a2 a3 a4 a5) := by
 intro a0 a1 a2 a3 a4 a5 k
 unfold QN.f
 exact LeO.bind (Qn.mono _ _ _ _) (fun _ => LeO.refl _)
theorem upto_all58 (l : List S58) (P : S58 → Prop) (k : Nat) (hk : l.length ≤ k) (h : ∀ j : Nat, j < k → P (Qh l j)) : ∀ i ∈ l, P i := fun i hi => by
 obtain ⟨j, hj, rfl⟩ := List.mem_iff_getElem.1 hi
 have := h j (by omega)
 unfold Qh at this
 rwa [Int.toNat_natCast, List.getD_eq_getElem?_getD, List.getElem?_eq_getElem hj] at this
theorem rd_mem58 (l : List S58) (k : Nat) (h1 : k < l.length) : Qh l k ∈ l := by
 unfold Qh
 rw [Int.toNat_natCast, List.getD_eq_getElem?_getD, List.getElem?_eq_getElem h1]
 exact List.getElem_mem _
theorem refB_no {l0_0 : List Int} {l0_2 : List S58} {l1 : List S42} {p q x : S58} (hb : decide (q.f0 = p.f1 ∧ q.f1 = p.f0 ∧ q.f2 = p.f2) = true) (hi : x ∈ l0_2) (h0 : x.f0 = p.f1) (hn : decide (x.f0 = p.f1 ∧ x.f1 = p.f0 ∧ x.f2 = p.f2) = false) : Ending.returned (Value.bool false) = Ending.returned (Value.bool (refB l0_0 l0_2 l1 p q)) := by
 have : l0_2.any (fun x => decide (x.f0 = p.f1) && !decide (x.f0 = p.f1 ∧ x.f1 = p.f0 ∧ x.f2 = p.f2)) = true := List.any_eq_true.2 ⟨x, hi, by rw [hn, decide_eq_true h0]; rfl⟩
 unfold refB
 rw [hb, this]
 rfl
theorem refB_yes {l0_0 : List Int} {l0_2 : List S58} {l1 : List S42} {p q : S58} {b0 : Bool} (hb : decide (q.f0 = p.f1 ∧ q.f1 = p.f0 ∧ q.f2 = p.f2) = b0) (hi : b0 = true → ∀ x ∈ l0_2, x.f0 = p.f1 → (x.f0 = p.f1 ∧ x.f1 = p.f0 ∧ x.f2 = p.f2)) : refB l0_0 l0_2 l1 p q = pcScan p.f2 (rd l0_0 p.f1) q.f2 l1 false false := by
 unfold refB
 rw [hb]
 cases b0 with
 | false => simp
 | true =>
  have : l0_2.any (fun x => decide (x.f0 = p.f1) && !decide (x.f0 = p.f1 ∧ x.f1 = p.f0 ∧ x.f2 = p.f2)) = false := by
   rw [List.any_eq_false]
   intro x h
   by_cases h0 : x.f0 = p.f1
   ·rw [decide_eq_true (hi rfl x h h0)]
    simp
   ·rw [decide_eq_false h0]
    simp
  rw [this]
  simp
theorem back_f (p q : S58) (b : Bool) (h : decide (q.f0 = p.f1 ∧ q.f1 = p.f0 ∧ q.f2 = p.f2) = b) : mapmakerref47_back.f p.f0 p.f1 p.f2 p.f3 p.f4 p.f5.f0 p.f5.f1 p.f5.f2 q.f0 q.f1 q.f2 q.f3 q.f4 q.f5.f0 q.f5.f1 q.f5.f2 = some b := by
 subst h
 unfold mapmakerref47_back.f
 by_cases h0 : q.f0 = p.f1
 ·rw [if_pos h0]
  by_cases h1 : q.f1 = p.f0
  ·rw [if_pos h1]
   congr 1
   rw [Bool.eq_iff_iff]
   simp [h0, h1]
  ·rw [if_neg h1]
   simp [h1]
 ·rw [if_neg h0]
  simp [h0]
set_option maxHeartbeats 8000000 in
set_option maxRecDepth 100000 in
theorem QN.calls (k : Nat) (A0_0 : Option Addr) (c0_0 : Nat) (l0_0 : List Int) (A0_1 : Option Addr) (c0_1 : Nat) (l0_1 : List (S158)) (A0_2 : Option Addr) (c0_2 : Nat) (l0_2 : List (S58)) (A1 : Option Addr) (c1 : Nat) (l1 : List (S42)) (a2 : Int) (a3 : Int) (r : Bool) (w : World) (hr0_0 : Kd.C (Kd.int .i64) w A0_0 l0_0.length l0_0) (hc0_0 : l0_0.length ≤ c0_0) (hr0_1 : Kd.C k158 w A0_1 l0_1.length l0_1) (hc0_1 : l0_1.length ≤ c0_1) (hr0_2 : Kd.C k58 w A0_2 l0_2.length l0_2) (hc0_2 : l0_2.length ≤ c0_2) (hr1 : Kd.C k42 w A1 l1.length l1) (hc1 : l1.length ≤ c1) (h : QN.f k l0_0 l0_1 l0_2 l1 a2 a3 = some r) :
  Calls Try.prog 15 #[.agg #[.slice A0_0 l0_0.length c0_0, .slice A0_1 l0_1.length c0_1, .slice A0_2 l0_2.length c0_2], .slice A1 l1.length c1, .int .i64 a2, .int .i64 a3] w fun e w' => e = .returned (.bool r) ∧ Below w.heap.size w w' := by
 unfold QN.f at h
 replace h := Option.bind_eq_some_iff.1 h
 obtain ⟨e0, he, h⟩ := h
 have HE := Qf.mk he
 have HR0 := Qf.mk hr0_0
 have HR1 := Qf.mk hr0_1
 have HR2 := Qf.mk hr0_2
 have HRT := Qf.mk hr1
 have HC0 := hc0_0
 have HC1 := hc0_1
 have HC2 := hc0_2
 have HLN : l0_2.length ≤ 9223372036854775807 := hr0_2.2.1
 have HLN1 : l1.length ≤ 9223372036854775807 := hr1.2.1
 clear he hr0_0 hr0_1 hr0_2 hr1 hc0_0 hc0_1 hc0_2 hc1
 by_cases e00 : e0 = 0
 case neg =>
  rw [if_neg e00] at h
  obtain rfl := Option.some.inj h
  clear h
  have b0 : (e0 != 0) = true := bne_iff_ne.2 e00
  have E0 := Qf.mk e00
  clear e00
  go_enter Try.func15, Try.ntmps15
  go_wp2_with (first | ((with_reducible refine QM (N := 4) rfl ?_); refine QI ?hg (N := 4) ?hd (cs := #[.slice A0_0 l0_0.length c0_0, .slice A0_1 l0_1.length c0_1, .slice A0_2 l0_2.length c0_2]) (t := 37) ?hr ?_; (case hd => rfl); (case hg => rfl); (case hr => first | (go_simp; done) | (go_simp; rfl)); intro g5 hg wb hbox hb; have HB := Qf.mk hb; have B5 := Qf.mk hbox; clear hb hbox hg; have z0 := (Qe B5.out 0).trans (rfl : _ = some (Value.slice A0_0 l0_0.length c0_0)); have z1 := (Qe B5.out 1).trans (rfl : _ = some (Value.slice A0_1 l0_1.length c0_1)); have z2 := (Qe B5.out 2).trans (rfl : _ = some (Value.slice A0_2 l0_2.length c0_2))) | (go_at_call 20; refine (Qn.calls k _ _ _ _ _ _ _ _ _ e0 _ (Kd.Qr HR0.out HB.out) HC0 (Kd.Qr HR1.out HB.out) HC1 (Kd.Qr HR2.out HB.out) HC2 HE.out).mono ?_; rintro e w1 ⟨rfl, hb1⟩; have HB1 := Qf.mk (Qo HB.out hb1); have C5 := Qf.mk ((hb1.block _ (QR B5.out)).trans B5.out); clear hb1 z0 z1 z2; have z0 := (Qe C5.out 0).trans (rfl : _ = some (Value.slice A0_0 l0_0.length c0_0)); have z1 := (Qe C5.out 1).trans (rfl : _ = some (Value.slice A0_1 l0_1.length c0_1)); have z2 := (Qe C5.out 2).trans (rfl : _ = some (Value.slice A0_2 l0_2.length c0_2))))
  go_ret
  exact ⟨rfl, HB1.out⟩
 rw [if_pos e00] at h
 have b0 : (e0 != 0) = false := bne_eq_false_iff_eq.2 e00
 have E0 := Qf.mk e00
 clear e00
 by_cases t2 : a2 < 0
 case pos =>
  rw [if_pos t2] at h
  obtain rfl := Option.some.inj h
  clear h
  have b1 : decide (a2 < 0) = true := decide_eq_true t2
  clear t2
  go_enter Try.func15, Try.ntmps15
  go_wp2_with (first | ((with_reducible refine QM (N := 4) rfl ?_); refine QI ?hg (N := 4) ?hd (cs := #[.slice A0_0 l0_0.length c0_0, .slice A0_1 l0_1.length c0_1, .slice A0_2 l0_2.length c0_2]) (t := 37) ?hr ?_; (case hd => rfl); (case hg => rfl); (case hr => first | (go_simp; done) | (go_simp; rfl)); intro g5 hg wb hbox hb; have HB := Qf.mk hb; have B5 := Qf.mk hbox; clear hb hbox hg; have z0 := (Qe B5.out 0).trans (rfl : _ = some (Value.slice A0_0 l0_0.length c0_0)); have z1 := (Qe B5.out 1).trans (rfl : _ = some (Value.slice A0_1 l0_1.length c0_1)); have z2 := (Qe B5.out 2).trans (rfl : _ = some (Value.slice A0_2 l0_2.length c0_2))) | (go_at_call 20; refine (Qn.calls k _ _ _ _ _ _ _ _ _ e0 _ (Kd.Qr HR0.out HB.out) HC0 (Kd.Qr HR1.out HB.out) HC1 (Kd.Qr HR2.out HB.out) HC2 HE.out).mono ?_; rintro e w1 ⟨rfl, hb1⟩; have HB1 := Qf.mk (Qo HB.out hb1); have C5 := Qf.mk ((hb1.block _ (QR B5.out)).trans B5.out); clear hb1 z0 z1 z2; have z0 := (Qe C5.out 0).trans (rfl : _ = some (Value.slice A0_0 l0_0.length c0_0)); have z1 := (Qe C5.out 1).trans (rfl : _ = some (Value.slice A0_1 l0_1.length c0_1)); have z2 := (Qe C5.out 2).trans (rfl : _ = some (Value.slice A0_2 l0_2.length c0_2))))
  go_ret
  exact ⟨rfl, HB1.out⟩
 rw [if_neg t2] at h
 have b1 : decide (a2 < 0) = false := decide_eq_false t2
 by_cases t3 : a3 < 0
 case pos =>
  rw [if_pos t3] at h
  obtain rfl := Option.some.inj h
  clear h
  have b2 : decide (a3 < 0) = true := decide_eq_true t3
  clear t2 t3
  go_enter Try.func15, Try.ntmps15
  go_wp2_with (first | ((with_reducible refine QM (N := 4) rfl ?_); refine QI ?hg (N := 4) ?hd (cs := #[.slice A0_0 l0_0.length c0_0, .slice A0_1 l0_1.length c0_1, .slice A0_2 l0_2.length c0_2]) (t := 37) ?hr ?_; (case hd => rfl); (case hg => rfl); (case hr => first | (go_simp; done) | (go_simp; rfl)); intro g5 hg wb hbox hb; have HB := Qf.mk hb; have B5 := Qf.mk hbox; clear hb hbox hg; have z0 := (Qe B5.out 0).trans (rfl : _ = some (Value.slice A0_0 l0_0.length c0_0)); have z1 := (Qe B5.out 1).trans (rfl : _ = some (Value.slice A0_1 l0_1.length c0_1)); have z2 := (Qe B5.out 2).trans (rfl : _ = some (Value.slice A0_2 l0_2.length c0_2))) | (go_at_call 20; refine (Qn.calls k _ _ _ _ _ _ _ _ _ e0 _ (Kd.Qr HR0.out HB.out) HC0 (Kd.Qr HR1.out HB.out) HC1 (Kd.Qr HR2.out HB.out) HC2 HE.out).mono ?_; rintro e w1 ⟨rfl, hb1⟩; have HB1 := Qf.mk (Qo HB.out hb1); have C5 := Qf.mk ((hb1.block _ (QR B5.out)).trans B5.out); clear hb1 z0 z1 z2; have z0 := (Qe C5.out 0).trans (rfl : _ = some (Value.slice A0_0 l0_0.length c0_0)); have z1 := (Qe C5.out 1).trans (rfl : _ = some (Value.slice A0_1 l0_1.length c0_1)); have z2 := (Qe C5.out 2).trans (rfl : _ = some (Value.slice A0_2 l0_2.length c0_2))))
  go_ret
  exact ⟨rfl, HB1.out⟩
 rw [if_neg t3] at h
 have b2 : decide (a3 < 0) = false := decide_eq_false t3
 by_cases u2 : a2 ≥ (l0_2.length : Int)
 case pos =>
  rw [if_pos u2] at h
  obtain rfl := Option.some.inj h
  clear h
  have b3 : decide ((l0_2.length : Int) ≤ a2) = true := decide_eq_true u2
  clear t2 t3 u2
  go_enter Try.func15, Try.ntmps15
  go_wp2_with (first | ((with_reducible refine QM (N := 4) rfl ?_); refine QI ?hg (N := 4) ?hd (cs := #[.slice A0_0 l0_0.length c0_0, .slice A0_1 l0_1.length c0_1, .slice A0_2 l0_2.length c0_2]) (t := 37) ?hr ?_; (case hd => rfl); (case hg => rfl); (case hr => first | (go_simp; done) | (go_simp; rfl)); intro g5 hg wb hbox hb; have HB := Qf.mk hb; have B5 := Qf.mk hbox; clear hb hbox hg; have z0 := (Qe B5.out 0).trans (rfl : _ = some (Value.slice A0_0 l0_0.length c0_0)); have z1 := (Qe B5.out 1).trans (rfl : _ = some (Value.slice A0_1 l0_1.length c0_1)); have z2 := (Qe B5.out 2).trans (rfl : _ = some (Value.slice A0_2 l0_2.length c0_2))) | (go_at_call 20; refine (Qn.calls k _ _ _ _ _ _ _ _ _ e0 _ (Kd.Qr HR0.out HB.out) HC0 (Kd.Qr HR1.out HB.out) HC1 (Kd.Qr HR2.out HB.out) HC2 HE.out).mono ?_; rintro e w1 ⟨rfl, hb1⟩; have HB1 := Qf.mk (Qo HB.out hb1); have C5 := Qf.mk ((hb1.block _ (QR B5.out)).trans B5.out); clear hb1 z0 z1 z2; have z0 := (Qe C5.out 0).trans (rfl : _ = some (Value.slice A0_0 l0_0.length c0_0)); have z1 := (Qe C5.out 1).trans (rfl : _ = some (Value.slice A0_1 l0_1.length c0_1)); have z2 := (Qe C5.out 2).trans (rfl : _ = some (Value.slice A0_2 l0_2.length c0_2))))
  go_ret
  exact ⟨rfl, HB1.out⟩
 rw [if_neg u2] at h
 have b3 : decide ((l0_2.length : Int) ≤ a2) = false := decide_eq_false u2
 by_cases u3 : a3 ≥ (l0_2.length : Int)
 case pos =>
  rw [if_pos u3] at h
  obtain rfl := Option.some.inj h
  clear h
  have b4 : decide ((l0_2.length : Int) ≤ a3) = true := decide_eq_true u3
  clear t2 t3 u2 u3
  go_enter Try.func15, Try.ntmps15
  go_wp2_with (first | ((with_reducible refine QM (N := 4) rfl ?_); refine QI ?hg (N := 4) ?hd (cs := #[.slice A0_0 l0_0.length c0_0, .slice A0_1 l0_1.length c0_1, .slice A0_2 l0_2.length c0_2]) (t := 37) ?hr ?_; (case hd => rfl); (case hg => rfl); (case hr => first | (go_simp; done) | (go_simp; rfl)); intro g5 hg wb hbox hb; have HB := Qf.mk hb; have B5 := Qf.mk hbox; clear hb hbox hg; have z0 := (Qe B5.out 0).trans (rfl : _ = some (Value.slice A0_0 l0_0.length c0_0)); have z1 := (Qe B5.out 1).trans (rfl : _ = some (Value.slice A0_1 l0_1.length c0_1)); have z2 := (Qe B5.out 2).trans (rfl : _ = some (Value.slice A0_2 l0_2.length c0_2))) | (go_at_call 20; refine (Qn.calls k _ _ _ _ _ _ _ _ _ e0 _ (Kd.Qr HR0.out HB.out) HC0 (Kd.Qr HR1.out HB.out) HC1 (Kd.Qr HR2.out HB.out) HC2 HE.out).mono ?_; rintro e w1 ⟨rfl, hb1⟩; have HB1 := Qf.mk (Qo HB.out hb1); have C5 := Qf.mk ((hb1.block _ (QR B5.out)).trans B5.out); clear hb1 z0 z1 z2; have z0 := (Qe C5.out 0).trans (rfl : _ = some (Value.slice A0_0 l0_0.length c0_0)); have z1 := (Qe C5.out 1).trans (rfl : _ = some (Value.slice A0_1 l0_1.length c0_1)); have z2 := (Qe C5.out 2).trans (rfl : _ = some (Value.slice A0_2 l0_2.length c0_2))))
  go_ret
  exact ⟨rfl, HB1.out⟩
 rw [if_neg u3] at h
 have b4 : decide ((l0_2.length : Int) ≤ a3) = false := decide_eq_false u3
 have h30 : 0 ≤ a2 := by omega
 have h31 : a2 < l0_2.length := by omega
 have h40 : 0 ≤ a3 := by omega
 have h41 : a3 < l0_2.length := by omega
 clear t2 t3 u2 u3
 have H := Qf.mk h
 clear h
 obtain ⟨ad3, A3, c3, e3, x0, x1, x2, x3, x4, x5, x6, x7, hl3, hk3⟩ := at_T58 HR2.out a2 h30 h31
 obtain ⟨ad4, A4, c4, e4, y0, y1, y2, y3, y4, y5, y6, y7, hl4, hk4⟩ := at_T58 HR2.out a3 h40 h41
 subst e3
 cases e4
 have GX := Qf.mk hk3
 have GY := Qf.mk hk4
 clear hk3 hk4
 go_enter Try.func15, Try.ntmps15
 go_wp2_with (first | ((with_reducible refine QM (N := 4) rfl ?_); refine QI ?hg (N := 4) ?hd (cs := #[.slice A0_0 l0_0.length c0_0, .slice A0_1 l0_1.length c0_1, .slice (some ad3) l0_2.length c0_2]) (t := 37) ?hr ?_; (case hd => rfl); (case hg => rfl); (case hr => first | (go_simp; done) | (go_simp; rfl)); intro g5 hg wb hbox hb; have HB := Qf.mk hb; have B5 := Qf.mk hbox; clear hb hbox hg; have z0 := (Qe B5.out 0).trans (rfl : _ = some (Value.slice A0_0 l0_0.length c0_0)); have z1 := (Qe B5.out 1).trans (rfl : _ = some (Value.slice A0_1 l0_1.length c0_1)); have z2 := (Qe B5.out 2).trans (rfl : _ = some (Value.slice (some ad3) l0_2.length c0_2))) | (go_at_call 20; refine (Qn.calls k _ _ _ _ _ _ _ _ _ e0 _ (Kd.Qr HR0.out HB.out) HC0 (Kd.Qr HR1.out HB.out) HC1 (Kd.Qr HR2.out HB.out) HC2 HE.out).mono ?_; rintro e w1 ⟨rfl, hb1⟩; have HB1 := Qf.mk (Qo HB.out hb1); have C5 := Qf.mk ((hb1.block _ (QR B5.out)).trans B5.out); clear hb1 z0 z1 z2; have z0 := (Qe C5.out 0).trans (rfl : _ = some (Value.slice A0_0 l0_0.length c0_0)); have z1 := (Qe C5.out 1).trans (rfl : _ = some (Value.slice A0_1 l0_1.length c0_1)); have z2 := (Qe C5.out 2).trans (rfl : _ = some (Value.slice (some ad3) l0_2.length c0_2))))
 replace x0 := (HB1.out.cell (World.block_lt_of_cell? w _ x0)).trans x0
 replace x1 := (HB1.out.cell (World.block_lt_of_cell? w _ x1)).trans x1
 replace x2 := (HB1.out.cell (World.block_lt_of_cell? w _ x2)).trans x2
 replace x3 := (HB1.out.cell (World.block_lt_of_cell? w _ x3)).trans x3
 replace x4 := (HB1.out.cell (World.block_lt_of_cell? w _ x4)).trans x4
 replace x5 := (HB1.out.cell (World.block_lt_of_cell? w _ x5)).trans x5
 replace x6 := (HB1.out.cell (World.block_lt_of_cell? w _ x6)).trans x6
 replace x7 := (HB1.out.cell (World.block_lt_of_cell? w _ x7)).trans x7
 replace y0 := (HB1.out.cell (World.block_lt_of_cell? w _ y0)).trans y0
 replace y1 := (HB1.out.cell (World.block_lt_of_cell? w _ y1)).trans y1
 replace y2 := (HB1.out.cell (World.block_lt_of_cell? w _ y2)).trans y2
 replace y3 := (HB1.out.cell (World.block_lt_of_cell? w _ y3)).trans y3
 replace y4 := (HB1.out.cell (World.block_lt_of_cell? w _ y4)).trans y4
 replace y5 := (HB1.out.cell (World.block_lt_of_cell? w _ y5)).trans y5
 replace y6 := (HB1.out.cell (World.block_lt_of_cell? w _ y6)).trans y6
 replace y7 := (HB1.out.cell (World.block_lt_of_cell? w _ y7)).trans y7
 have q3 := World.block_lt_of_cell? _ _ x0
 have q4 := World.block_lt_of_cell? _ _ y0
 have q5 := QR C5.out
 have q3' := Nat.lt_succ_of_lt q3
 have q4' := Nat.lt_succ_of_lt q4
 have q5' := Nat.lt_succ_of_lt q5
 go_cut [9, 10] from 40 to 49 (fun v11 v12 wc => ∃ g11 g12 : Nat, v11 = .pointer (some ⟨g11, 0, none⟩) ∧ v12 = .pointer (some ⟨g12, 0, none⟩) ∧ Qf (wc.heap[g5]? = some (.cells #[.slice A0_0 l0_0.length c0_0, .slice A0_1 l0_1.length c0_1, .slice (some ad3) l0_2.length c0_2] 37 (0, 0))) ∧ Qf (wc.heap[g11]? = some (.cells #[.int .i64 (Qh l0_2 a2).f0, .int .i64 (Qh l0_2 a2).f1, .int .i64 (Qh l0_2 a2).f2, .int .i64 (Qh l0_2 a2).f3, .int .i64 (Qh l0_2 a2).f4, .slice A3 (Qh l0_2 a2).f5.f0.length c3, .int .i64 (Qh l0_2 a2).f5.f1, .int .i64 (Qh l0_2 a2).f5.f2] 58 (0, 0))) ∧ Qf (wc.heap[g12]? = some (.cells #[.int .i64 (Qh l0_2 a3).f0, .int .i64 (Qh l0_2 a3).f1, .int .i64 (Qh l0_2 a3).f2, .int .i64 (Qh l0_2 a3).f3, .int .i64 (Qh l0_2 a3).f4, .slice A4 (Qh l0_2 a3).f5.f0.length c4, .int .i64 (Qh l0_2 a3).f5.f1, .int .i64 (Qh l0_2 a3).f5.f2] 58 (0, 0))) ∧ Qf (Below w.heap.size w wc))
 case first =>
  have HB := HB1
  have B5 := C5
  go_region
  all_goals
   go_wp2_with fail
   go_meet
   case rel => exact ⟨_, _, rfl, rfl, ⟨(by (with_reducible repeat (first | exact B5.out | refine Qg ?_ | refine Qb ?_ _)))⟩, ⟨(by (with_reducible repeat (first | exact blk_at (by simp; done) | refine Qg ?_ | refine Qb ?_ _)))⟩, ⟨(by (with_reducible repeat (first | exact blk_at (by simp; done) | refine Qg ?_ | refine Qb ?_ _)))⟩, ⟨(by repeat (first | (with_reducible first | exact HB.out | apply Qi | apply Qa | apply Qj) | exact HB.out))⟩⟩
 case rest =>
  obtain ⟨g11, g12, rfl, rfl, B5, B11, B12, HB⟩ := hcut
  clear x0 x1 x2 x3 x4 x5 x6 x7 y0 y1 y2 y3 y4 y5 y6 y7 q3 q4 q5 q3' q4' q5' z0 z1 z2 C5 HB1 b0 b1 b2 b3 b4 HE
  have R1 := Qf.mk (Kd.Qr HRT.out HB.out)
  have R0 := Qf.mk (Kd.Qr HR0.out HB.out)
  have R2 := Qf.mk (Kd.Qr HR2.out HB.out)
  have RX := Qf.mk (Kd.Qr GX.out HB.out)
  have RY := Qf.mk (Kd.Qr GY.out HB.out)
  clear HR0 HR1 HR2 HRT GX GY
  obtain ⟨p, hp⟩ : ∃ p, p = Qh l0_2 a2 := ⟨_, rfl⟩
  obtain ⟨q, hq⟩ : ∃ q, q = Qh l0_2 a3 := ⟨_, rfl⟩
  rw [← hp] at B11 RX hl3 H
  rw [← hq] at B12 RY hl4 H
  clear hp hq
  have HL3 := Qf.mk hl3
  have HL4 := Qf.mk hl4
  clear hl3 hl4
  have x1 := (Qe B11.out 1).trans (rfl : _ = some (Value.int .i64 p.f1))
  have y0 := (Qe B12.out 0).trans (rfl : _ = some (Value.int .i64 q.f0))
  have h := H.out
  by_cases hpq : p.f1 = q.f0
  case neg =>
   rw [if_neg hpq] at h
   obtain rfl := Option.some.inj h
   clear h H
   have bpq : (p.f1 != q.f0) = true := bne_iff_ne.2 hpq
   clear hpq
   go_wp2
   go_ret
   exact ⟨rfl, HB.out⟩
  rw [if_pos hpq] at h
  have bpq : (p.f1 != q.f0) = false := bne_eq_false_iff_eq.2 hpq
  clear hpq
  by_cases hv : 0 ≤ p.f1 ∧ p.f1 < (l0_0.length : Int)
  case neg => rw [if_neg hv] at h; cases h
  rw [if_pos hv] at h
  obtain rfl := Option.some.inj h
  clear h H
  obtain ⟨hv0, hv1⟩ := hv
  have x0 := (Qe B11.out 0).trans (rfl : _ = some (Value.int .i64 p.f0))
  have x2 := (Qe B11.out 2).trans (rfl : _ = some (Value.int .i64 p.f2))
  have x3 := (Qe B11.out 3).trans (rfl : _ = some (Value.int .i64 p.f3))
  have x4 := (Qe B11.out 4).trans (rfl : _ = some (Value.int .i64 p.f4))
  have x5 := (Qe B11.out 5).trans (rfl : _ = some (Value.slice A3 p.f5.f0.length c3))
  have x6 := (Qe B11.out 6).trans (rfl : _ = some (Value.int .i64 p.f5.f1))
  have x7 := (Qe B11.out 7).trans (rfl : _ = some (Value.int .i64 p.f5.f2))
  have y1 := (Qe B12.out 1).trans (rfl : _ = some (Value.int .i64 q.f1))
  have y2 := (Qe B12.out 2).trans (rfl : _ = some (Value.int .i64 q.f2))
  have y3 := (Qe B12.out 3).trans (rfl : _ = some (Value.int .i64 q.f3))
  have y4 := (Qe B12.out 4).trans (rfl : _ = some (Value.int .i64 q.f4))
  have y5 := (Qe B12.out 5).trans (rfl : _ = some (Value.slice A4 q.f5.f0.length c4))
  have y6 := (Qe B12.out 6).trans (rfl : _ = some (Value.int .i64 q.f5.f1))
  have y7 := (Qe B12.out 7).trans (rfl : _ = some (Value.int .i64 q.f5.f2))
  obtain ⟨bb, hbb⟩ : ∃ b, decide (q.f0 = p.f1 ∧ q.f1 = p.f0 ∧ q.f2 = p.f2) = b := ⟨_, rfl⟩
  have HB0 := Qf.mk hbb
  clear hbb
  go_upto_if 57 with (go_at_call 39; refine (mapmakerref47_back.calls _ _ _ _ _ _ _ _ _ _ _ _ _ _ _ _ _ _ _ _ bb _ RX.out HL3.out RY.out HL4.out (back_f p q bb HB0.out)).mono ?_; rintro e w2 ⟨rfl, hb1⟩; have HB1 := Qf.mk hb1; clear hb1)
  have HBR := Qf.mk (Qo HB.out HB1.out)
  have C5 := Qf.mk ((HB1.out.block _ (QR B5.out)).trans B5.out)
  have C11 := Qf.mk ((HB1.out.block _ (QR B11.out)).trans B11.out)
  have C12 := Qf.mk ((HB1.out.block _ (QR B12.out)).trans B12.out)
  have Q1 := Qf.mk (Kd.Qr R1.out HB1.out)
  have Q2 := Qf.mk (Kd.Qr R2.out HB1.out)
  have Q0 := Qf.mk (Kd.Qr R0.out HB1.out)
  have QX := Qf.mk (Kd.Qr RX.out HB1.out)
  clear R1 R2 R0 RX RY B5 B11 B12 HB HB1 x0 x1 x2 x3 x4 x5 x6 x7 y0 y1 y2 y3 y4 y5 y6 y7
  go_cut [11] from 58 to 83 (fun v11 wc2 => Qf (Below w2.heap.size w2 wc2) ∧ Qf (bb = true → ∀ x ∈ l0_2, x.f0 = p.f1 → (x.f0 = p.f1 ∧ x.f1 = p.f0 ∧ x.f2 = p.f2)))
  case first =>
   cases bb with
   | false =>
    go_wp2
    go_meet
    case rel => exact ⟨⟨Below.refl _ _⟩, ⟨fun h => by cases h⟩⟩
   | true =>
    go_wp2
    go_loopg [11] l0_2.length (fun kq v36 w' => ∃ k : Nat, v36 = .int .i64 k ∧ Qf (k + kq = l0_2.length) ∧ Qf (∀ j : Nat, j < k → (Qh l0_2 j).f0 = p.f1 → ((Qh l0_2 j).f0 = p.f1 ∧ (Qh l0_2 j).f1 = p.f0 ∧ (Qh l0_2 j).f2 = p.f2)) ∧ Qf (Below w2.heap.size w2 w'))
    case atStart => exact ⟨0, rfl, ⟨by omega⟩, ⟨fun j hj => by omega⟩, ⟨Below.refl _ _⟩⟩
    case round =>
     obtain ⟨k, rfl, HK, HA, HB⟩ := hrel
     have D5 := Qf.mk ((HB.out.block _ (QR C5.out)).trans C5.out)
     have D11 := Qf.mk ((HB.out.block _ (QR C11.out)).trans C11.out)
     have d2 := (Qe D5.out 2).trans (rfl : _ = some (Value.slice (some ad3) l0_2.length c0_2))
     by_cases hk : k < l0_2.length
     ·obtain ⟨adp, Ap, cp, ep, x0, x1, x2, x3, x4, x5, x6, x7, hlp, hkp⟩ := at_T58 Q2.out (k : Int) (by omega) (by omega)
      cases ep
      rw [Int.toNat_natCast] at x0 x1 x2 x3 x4 x5 x6 x7
      have HJI := Qf.mk (rfl : Qh l0_2 k = Qh l0_2 k)
      obtain ⟨z, hz⟩ : ∃ z, z = Qh l0_2 k := ⟨_, rfl⟩
      rw [← hz] at x0 x1 x2 x3 x4 x5 x6 x7 hlp hkp
      have HZ := Qf.mk hz
      clear hz HJI
      replace x0 := (HB.out.cell (World.block_lt_of_cell? w2 _ x0)).trans x0
      replace x1 := (HB.out.cell (World.block_lt_of_cell? w2 _ x1)).trans x1
      replace x2 := (HB.out.cell (World.block_lt_of_cell? w2 _ x2)).trans x2
      replace x3 := (HB.out.cell (World.block_lt_of_cell? w2 _ x3)).trans x3
      replace x4 := (HB.out.cell (World.block_lt_of_cell? w2 _ x4)).trans x4
      replace x5 := (HB.out.cell (World.block_lt_of_cell? w2 _ x5)).trans x5
      replace x6 := (HB.out.cell (World.block_lt_of_cell? w2 _ x6)).trans x6
      replace x7 := (HB.out.cell (World.block_lt_of_cell? w2 _ x7)).trans x7
      have RZ := Qf.mk (Kd.Qr hkp HB.out)
      have RX := Qf.mk (Kd.Qr QX.out HB.out)
      have HLZ := Qf.mk hlp
      clear hlp hkp
      have p0 := (Qe D11.out 0).trans (rfl : _ = some (Value.int .i64 p.f0))
      have p1 := (Qe D11.out 1).trans (rfl : _ = some (Value.int .i64 p.f1))
      have p2 := (Qe D11.out 2).trans (rfl : _ = some (Value.int .i64 p.f2))
      have p3 := (Qe D11.out 3).trans (rfl : _ = some (Value.int .i64 p.f3))
      have p4 := (Qe D11.out 4).trans (rfl : _ = some (Value.int .i64 p.f4))
      have p5 := (Qe D11.out 5).trans (rfl : _ = some (Value.slice A3 p.f5.f0.length c3))
      have p6 := (Qe D11.out 6).trans (rfl : _ = some (Value.int .i64 p.f5.f1))
      have p7 := (Qe D11.out 7).trans (rfl : _ = some (Value.int .i64 p.f5.f2))
      have hkd : decide ((k : Int) < (l0_2.length : Int)) = true := decide_eq_true (by omega)
      have hkd' : decide (k < l0_2.length) = true := decide_eq_true hk
      by_cases hz0 : z.f0 = p.f1
      ·have hz0b : (z.f0 == p.f1) = true := beq_iff_eq.2 hz0
       have HZ0 := Qf.mk hz0
       clear hz0
       obtain ⟨bz, hbz⟩ : ∃ b, decide (z.f0 = p.f1 ∧ z.f1 = p.f0 ∧ z.f2 = p.f2) = b := ⟨_, rfl⟩
       have HBZ := Qf.mk hbz
       clear hbz
       cases bz with
       | true =>
        go_wp2
        go_still_tail 16, (by kernel_rfl)
        go_wp2_with (go_at_call 39; refine (mapmakerref47_back.calls _ _ _ _ _ _ _ _ _ _ _ _ _ _ _ _ _ _ _ _ true _ (Kd.Qr RX.out (QV (Below.refl _ _))) HL3.out (Kd.Qr RZ.out (QV (Below.refl _ _))) HLZ.out (back_f p z true HBZ.out)).mono ?_; rintro e w3 ⟨rfl, hb1⟩; have HB1 := Qf.mk hb1; clear hb1)
        go_roundg (gk - 1)
        case measure => have := HK.out; omega
        case rel => exact ⟨k + 1, by go_num, ⟨by have := HK.out; omega⟩, ⟨upto_succ HA.out (fun _ => by rw [← HZ.out]; exact of_decide_eq_true HBZ.out)⟩, ⟨Qo (QV HB.out) HB1.out⟩⟩
       | false =>
        go_wp2
        go_still_tail 16, (by kernel_rfl)
        go_wp2_with (go_at_call 39; refine (mapmakerref47_back.calls _ _ _ _ _ _ _ _ _ _ _ _ _ _ _ _ _ _ _ _ false _ (Kd.Qr RX.out (QV (Below.refl _ _))) HL3.out (Kd.Qr RZ.out (QV (Below.refl _ _))) HLZ.out (back_f p z false HBZ.out)).mono ?_; rintro e w3 ⟨rfl, hb1⟩; have HB1 := Qf.mk hb1; clear hb1)
        go_ret
        exact ⟨refB_no HB0.out (x := z) (by rw [HZ.out]; exact rd_mem58 _ _ hk) HZ0.out HBZ.out, Qo HBR.out (Qo (QV HB.out) HB1.out)⟩
      ·have hz0b : (z.f0 == p.f1) = false := beq_eq_false_iff_ne.2 hz0
       have HZ0 := Qf.mk hz0
       clear hz0
       go_wp2
       go_quiet (fail)
       go_wp2
       go_roundg (gk - 1)
       case measure => have := HK.out; omega
       case rel => exact ⟨k + 1, by go_num, ⟨by have := HK.out; omega⟩, ⟨upto_succ HA.out (fun h => absurd h (by rw [← HZ.out]; exact HZ0.out))⟩, ⟨(by repeat (first | (with_reducible first | exact HB.out | apply Qi | apply Qa | apply Qj) | exact HB.out))⟩⟩
     ·have hkd : decide ((k : Int) < (l0_2.length : Int)) = false := decide_eq_false (by omega)
      have hkd' : decide (k < l0_2.length) = false := decide_eq_false hk
      go_wp2
      go_meet
      case rel => exact ⟨HB, ⟨fun _ => upto_all58 l0_2 (fun x => x.f0 = p.f1 → (x.f0 = p.f1 ∧ x.f1 = p.f0 ∧ x.f2 = p.f2)) k (by omega) HA.out⟩⟩
  case rest =>
   obtain ⟨HB2, HALL⟩ := hcut
   have E5 := Qf.mk ((HB2.out.block _ (QR C5.out)).trans C5.out)
   have E11 := Qf.mk ((HB2.out.block _ (QR C11.out)).trans C11.out)
   have E12 := Qf.mk ((HB2.out.block _ (QR C12.out)).trans C12.out)
   have P1 := Qf.mk (Kd.Qr Q1.out HB2.out)
   have P0 := Qf.mk (Kd.Qr Q0.out HB2.out)
   have HBW := Qf.mk (Qo HBR.out HB2.out)
   clear Q1 Q2 Q0 QX C5 C11 C12 HB2 HBR
   obtain ⟨ad0, e0', n0⟩ := Kd.at_int P0.out _ hv0 hv1
   cases e0'
   have HP := Qf.mk (refB_yes (l0_0 := l0_0) (l1 := l1) HB0.out HALL.out)
   clear HALL
   obtain ⟨wa, hwa⟩ : ∃ wa : World, wa = wc := ⟨_, rfl⟩
   rw [← hwa] at n0 P1 P0 E5 E11 E12 HBW ⊢
   clear hwa
   go_wp2
   go_loopg [12, 13, 14] l1.length (fun kq v16 v17 v51 w' => ∃ (k : Nat) (must may : Bool), v51 = .int .i64 k ∧ v16 = .bool must ∧ v17 = .bool may ∧ Qf (k + kq = l1.length) ∧ Qf (pcScan p.f2 (rd l0_0 p.f1) q.f2 (l1.drop k) must may = refB l0_0 l0_2 l1 p q) ∧ Qf (Below wa.heap.size wa w'))
   case atStart => exact ⟨0, false, false, rfl, rfl, rfl, ⟨by omega⟩, ⟨HP.out.symm⟩, ⟨Below.refl _ _⟩⟩
   case round =>
    obtain ⟨k, must, may, rfl, rfl, rfl, HK, HS, HB⟩ := hrel
    by_cases hk : k < l1.length
    ·have HSTEP := Qf.mk (HS.out.symm.trans (pcScan_step p.f2 (rd l0_0 p.f1) q.f2 l1 k hk must may))
     clear HS
     obtain ⟨ad1, e1, t0, t1, t2, t3⟩ := at_T42 P1.out (k : Int) (by omega) (by omega)
     subst e1
     rw [Int.toNat_natCast] at t0 t1 t2 t3
     obtain ⟨t, ht⟩ : ∃ t, t = rd_T42 l1 k := ⟨_, rfl⟩
     rw [← ht] at t0 t1 t2 t3 HSTEP
     clear ht
     replace t0 := (HB.out.cell (World.block_lt_of_cell? wa _ t0)).trans t0
     replace t1 := (HB.out.cell (World.block_lt_of_cell? wa _ t1)).trans t1
     replace t2 := (HB.out.cell (World.block_lt_of_cell? wa _ t2)).trans t2
     replace t3 := (HB.out.cell (World.block_lt_of_cell? wa _ t3)).trans t3
     replace n0 := (HB.out.cell (World.block_lt_of_cell? wa _ n0)).trans n0
     have D5 := Qf.mk ((HB.out.block _ (QR E5.out)).trans E5.out)
     have D11 := Qf.mk ((HB.out.block _ (QR E11.out)).trans E11.out)
     have D12 := Qf.mk ((HB.out.block _ (QR E12.out)).trans E12.out)
     have d5 := (Qe D5.out 0).trans (rfl : _ = some (Value.slice (some ad0) l0_0.length c0_0))
     have d11 := (Qe D11.out 1).trans (rfl : _ = some (Value.int .i64 p.f1))
     have d11' := (Qe D11.out 2).trans (rfl : _ = some (Value.int .i64 p.f2))
     have d12 := (Qe D12.out 2).trans (rfl : _ = some (Value.int .i64 q.f2))
     obtain ⟨via, hvia⟩ : ∃ x, x = rd l0_0 p.f1 := ⟨_, rfl⟩
     rw [← hvia] at n0 HSTEP
     have HX := Qf.mk hvia
     clear hvia
     have hkd : decide ((k : Int) < (l1.length : Int)) = true := decide_eq_true (by omega)
     have hkd' : decide (k < l1.length) = true := decide_eq_true hk
     by_cases h0 : t.f0 = p.f2
     ·have h0b : (t.f0 == p.f2) = true := beq_iff_eq.2 h0
      have h0c : (t.f0 != p.f2) = false := bne_eq_false_iff_eq.2 h0
      have H0 := Qf.mk h0
      clear h0
      by_cases h1 : t.f1 = via
      ·have h1b : (t.f1 == via) = true := beq_iff_eq.2 h1
       have h1c : (t.f1 != via) = false := bne_eq_false_iff_eq.2 h1
       have H1 := Qf.mk h1
       clear h1
       cases h3 : t.f3 with
       | true =>
        rw [h3] at t3
        have H3 := Qf.mk h3
        clear h3
        by_cases h2 : t.f2 = q.f2
        ·have h2b : (t.f2 == q.f2) = true := beq_iff_eq.2 h2
         have H2 := Qf.mk h2
         clear h2
         cases may <;>
         ·go_wp2
          go_quiet (fail)
          go_wp2
          go_quiet (fail)
          go_wp2
          go_quiet (fail)
          go_wp2
          go_roundg (gk - 1)
          case measure => have := HK.out; omega
          case rel => exact ⟨k + 1, true, true, by go_num, rfl, rfl, ⟨by have := HK.out; omega⟩, ⟨by rw [HSTEP.out, if_neg (by simp [H0.out, H1.out]), if_pos H3.out, decide_eq_true H2.out, HX.out]; rfl⟩, ⟨(by repeat (first | (with_reducible first | exact HB.out | apply Qi | apply Qa | apply Qj) | exact HB.out))⟩⟩
        ·have h2b : (t.f2 == q.f2) = false := beq_eq_false_iff_ne.2 h2
         have H2 := Qf.mk h2
         clear h2
         cases may <;>
         ·go_wp2
          go_quiet (fail)
          go_wp2
          go_quiet (fail)
          go_wp2
          go_quiet (fail)
          go_wp2
          go_roundg (gk - 1)
          case measure => have := HK.out; omega
          case rel => exact ⟨k + 1, true, _, by go_num, rfl, rfl, ⟨by have := HK.out; omega⟩, ⟨by rw [HSTEP.out, if_neg (by simp [H0.out, H1.out]), if_pos H3.out, decide_eq_false H2.out, HX.out]; rfl⟩, ⟨(by repeat (first | (with_reducible first | exact HB.out | apply Qi | apply Qa | apply Qj) | exact HB.out))⟩⟩
       | false =>
        rw [h3] at t3
        have H3 := Qf.mk h3
        clear h3
        by_cases h2 : t.f2 = q.f2
        ·have h2b : (t.f2 == q.f2) = true := beq_iff_eq.2 h2
         have H2 := Qf.mk h2
         clear h2
         go_wp2
         go_quiet (fail)
         go_wp2
         go_quiet (fail)
         go_wp2
         go_ret
         exact ⟨congrArg (fun b => Ending.returned (Value.bool b)) (by rw [HSTEP.out, if_neg (by simp [H0.out, H1.out]), if_neg (by rw [H3.out]; simp), if_pos H2.out]), Qo HBW.out (by repeat (first | (with_reducible first | exact HB.out | apply Qi | apply Qa | apply Qj) | exact HB.out))⟩
        ·have h2b : (t.f2 == q.f2) = false := beq_eq_false_iff_ne.2 h2
         have H2 := Qf.mk h2
         clear h2
         go_wp2
         go_quiet (fail)
         go_wp2
         go_quiet (fail)
         go_wp2
         go_roundg (gk - 1)
         case measure => have := HK.out; omega
         case rel => exact ⟨k + 1, _, _, by go_num, rfl, rfl, ⟨by have := HK.out; omega⟩, ⟨by rw [HSTEP.out, if_neg (by simp [H0.out, H1.out]), if_neg (by rw [H3.out]; simp), if_neg H2.out, HX.out]⟩, ⟨(by repeat (first | (with_reducible first | exact HB.out | apply Qi | apply Qa | apply Qj) | exact HB.out))⟩⟩
      ·have h1b : (t.f1 == via) = false := beq_eq_false_iff_ne.2 h1
       have h1c : (t.f1 != via) = true := bne_iff_ne.2 h1
       have H1 := Qf.mk h1
       clear h1
       go_wp2
       go_quiet (fail)
       go_wp2
       go_roundg (gk - 1)
       case measure => have := HK.out; omega
       case rel => exact ⟨k + 1, _, _, by go_num, rfl, rfl, ⟨by have := HK.out; omega⟩, ⟨by rw [HSTEP.out, if_pos (Or.inr H1.out), HX.out]⟩, ⟨(by repeat (first | (with_reducible first | exact HB.out | apply Qi | apply Qa | apply Qj) | exact HB.out))⟩⟩
     ·have h0b : (t.f0 == p.f2) = false := beq_eq_false_iff_ne.2 h0
      have h0c : (t.f0 != p.f2) = true := bne_iff_ne.2 h0
      have H0 := Qf.mk h0
      clear h0
      go_wp2
      go_quiet (fail)
      go_wp2
      go_roundg (gk - 1)
      case measure => have := HK.out; omega
      case rel => exact ⟨k + 1, _, _, by go_num, rfl, rfl, ⟨by have := HK.out; omega⟩, ⟨by rw [HSTEP.out, if_pos (Or.inl H0.out), HX.out]⟩, ⟨(by repeat (first | (with_reducible first | exact HB.out | apply Qi | apply Qa | apply Qj) | exact HB.out))⟩⟩
    ·have hkd : decide ((k : Int) < (l1.length : Int)) = false := decide_eq_false (by omega)
     have hkd' : decide (k < l1.length) = false := decide_eq_false hk
     have hend : l1.drop k = [] := List.drop_eq_nil_of_le (by omega)
     have hfin := HS.out
     rw [hend] at hfin
     have HF := Qf.mk hfin
     clear hend hfin HS
     cases must <;>
     ·go_wp2
      go_ret
      exact ⟨congrArg (fun b => Ending.returned (Value.bool b)) (by rw [← HF.out]; rfl), Qo HBW.out HB.out⟩

/-! ### QY: function 17 -/
def QY.f (k : Nat) (l0_0 : List Int) (l0_1 : List (S158)) (l0_2 : List (S58)) (a1 : Int) : Option (Int) := (Qn.f k l0_0 l0_1 l0_2).bind fun t152 => (if t152 = 0 then (if a1 < 0 then (some (-1)) else (if a1 ≥ (l0_0.length : Int) then (some (-1)) else (some (wrap64 ((l0_2.length : Int) + a1))))) else (some (-1)))
theorem QY.mono : ∀ a0 a1 a2 a3 k, LeO (QY.f k a0 a1 a2 a3) (QY.f (k + 1) a0 a1 a2 a3) := by
 intro a0 a1 a2 a3 k
 unfold QY.f
 repeat' first
   | (with_reducible exact Qn.mono _ _ _ _)
   | (with_reducible exact LeO.refl _)
   | (with_reducible exact LeO.none _)
   | (with_reducible refine LeO.ite ?_ ?_)
   | (with_reducible refine LeO.bind ?_ (fun _ => ?_))
   | exact Qn.mono _ _ _ _
   | exact LeO.none _
   | refine LeO.ite ?_ ?_
   | refine LeO.bind ?_ (fun _ => ?_)
set_option maxHeartbeats 8000000 in
set_option maxRecDepth 100000 in
theorem QY.calls (k : Nat) (A0_0 : Option Addr) (c0_0 : Nat) (l0_0 : List Int) (A0_1 : Option Addr) (c0_1 : Nat) (l0_1 : List (S158)) (A0_2 : Option Addr) (c0_2 : Nat) (l0_2 : List (S58)) (a1 : Int) (r : Int) (w : World) (hr0_0 : Kd.C (Kd.int .i64) w A0_0 l0_0.length l0_0) (hc0_0 : l0_0.length ≤ c0_0) (hr0_1 : Kd.C k158 w A0_1 l0_1.length l0_1) (hc0_1 : l0_1.length ≤ c0_1) (hr0_2 : Kd.C k58 w A0_2 l0_2.length l0_2) (hc0_2 : l0_2.length ≤ c0_2) (h : QY.f k l0_0 l0_1 l0_2 a1 = some r) :
  Calls Try.prog 17 #[.agg #[.slice A0_0 l0_0.length c0_0, .slice A0_1 l0_1.length c0_1, .slice A0_2 l0_2.length c0_2], .int .i64 a1] w fun e w' => e = .returned (.int .i64 r) ∧ Below w.heap.size w w' := by
 have hu37 := Try.underlying37
 have HR0_0 := Qf.mk hr0_0
 have HC0_0 := Qf.mk hc0_0
 clear hr0_0 hc0_0
 have HR0_1 := Qf.mk hr0_1
 have HC0_1 := Qf.mk hc0_1
 clear hr0_1 hc0_1
 have HR0_2 := Qf.mk hr0_2
 have HC0_2 := Qf.mk hc0_2
 clear hr0_2 hc0_2
 have HB := Qf.mk (Below.refl w.heap.size w)
 have H : ((Qn.f k l0_0 l0_1 l0_2).bind fun t152 => (if t152 = 0 then (if a1 < 0 then (some (-1)) else (if a1 ≥ (l0_0.length : Int) then (some (-1)) else (some (wrap64 ((l0_2.length : Int) + a1))))) else (some (-1)))) = some r := h
 clear h
 replace H := Option.bind_eq_some_iff.mp H
 obtain ⟨t152, A30, H⟩ := H
 replace H : (if t152 = 0 then (if a1 < 0 then (some (-1)) else (if a1 ≥ (l0_0.length : Int) then (some (-1)) else (some (wrap64 ((l0_2.length : Int) + a1))))) else (some (-1))) = some r := H
 have A3 := Qf.mk A30
 clear A30
 by_cases c4 : t152 = 0
 ·rw [if_pos c4] at H
  have c4b0 : (t152 == 0) = true := beq_iff_eq.mpr c4
  have c4b1 : (t152 != 0) = false := bne_eq_false_iff_eq.mpr c4
  clear c4
  by_cases c5 : a1 < 0
  ·rw [if_pos c5] at H
   have c5b0 : decide (a1 < 0) = true := decide_eq_true c5
   clear c5
   obtain rfl := Option.some.inj H
   go_enter Try.func17, Try.ntmps17
   go_wp2_with (first | ((with_reducible refine QM (N := 2) rfl ?_); (try (refine Q5 (by rfl) ?_; dsimp only)); refine QI ?hg (N := 2) ?hd (cs := #[.slice A0_0 l0_0.length c0_0, .slice A0_1 l0_1.length c0_1, .slice A0_2 l0_2.length c0_2]) (t := 37) ?hr ?_; (case hd => rfl); (case hg => rfl); (case hr => first | (go_simp; done) | (go_simp; rfl)); intro gb151 hg w6 hbox hb; have n0_ := Qf.mk (Qo (by repeat (first | (with_reducible first | exact HB.out | apply Qi | apply Qa | apply Qj) | exact HB.out)) hb); have n1_ := Qf.mk (hbox); have n2_ := Qf.mk ((by rw [hg]; exact (Qp (by repeat (first | (with_reducible first | exact HB.out | apply Qi | apply Qa | apply Qj) | exact HB.out))) : w.heap.size ≤ gb151)); have n3_ := Qf.mk ((by rw [hg]; exact (Qp (by repeat (first | (with_reducible first | exact HB.out | apply Qi | apply Qa | apply Qj) | exact HB.out))) : w.heap.size ≤ gb151)); clear HB; have HB := n0_; have BK151 := n1_; have GW151 := n2_; have GE151 := n3_; clear n0_ n1_ n2_ n3_; clear hb hbox hg; have hcz7_0 : w6.cell? ⟨gb151, 0, none⟩ = some (.slice A0_0 l0_0.length c0_0) := (Qe BK151.out 0).trans rfl; have hcz7_1 : w6.cell? ⟨gb151, 1, none⟩ = some (.slice A0_1 l0_1.length c0_1) := (Qe BK151.out 1).trans rfl; have hcz7_2 : w6.cell? ⟨gb151, 2, none⟩ = some (.slice A0_2 l0_2.length c0_2) := (Qe BK151.out 2).trans rfl; have hfz7_0 := Qc BK151.out 0; have hfz7_1 := Qc BK151.out 1; have hfz7_2 := Qc BK151.out 2) | ((with_reducible refine Q4 (f := 20) rfl ?_); refine goesL_ (some 6) rfl rfl Try.func20 (by kernel_rfl) rfl #[.agg #[.slice A0_0 l0_0.length c0_0, .slice A0_1 l0_1.length c0_1, .slice A0_2 l0_2.length c0_2]] rfl (by (try simp only [List.map_toArray, List.map_cons, List.map_nil]); first | done | rfl | (simp only [List.length_drop, List.length_take]; rfl)) ?_; (with_reducible refine (Qn.calls k _ _ l0_0 _ _ l0_1 _ _ l0_2 t152 _ ?side1 ?side2 ?side3 ?side4 ?side5 ?side6 A3.out).mono ?_); (case side1 => repeat (first | exact (Kd.Qr HR0_0.out HB.out) | (with_reducible refine Kd.QG ?_ _) | (with_reducible refine Kd.QH ?_ _) | (with_reducible refine Kd.QO ?_))); (case side2 => exact HC0_0.out); (case side3 => repeat (first | exact (Kd.Qr HR0_1.out HB.out) | (with_reducible refine Kd.QG ?_ _) | (with_reducible refine Kd.QH ?_ _) | (with_reducible refine Kd.QO ?_))); (case side4 => exact HC0_1.out); (case side5 => repeat (first | exact (Kd.Qr HR0_2.out HB.out) | (with_reducible refine Kd.QG ?_ _) | (with_reducible refine Kd.QH ?_ _) | (with_reducible refine Kd.QO ?_))); (case side6 => exact HC0_2.out); rintro e w8 ⟨rfl, hb⟩; refine ⟨_, rfl, ?_⟩; have n0_ := Qf.mk (QF (g := gb151) (o := .cells #[.slice A0_0 l0_0.length c0_0, .slice A0_1 l0_1.length c0_1, .slice A0_2 l0_2.length c0_2] 37 (0, 0)) (by (with_reducible repeat (first | refine Qd ?_ _ | refine Qg ?_ | refine Qb ?_ _)); exact BK151.out) hb); have n1_ := Qf.mk (Qo (by repeat (first | (with_reducible first | exact HB.out | apply Qi | apply Qa | apply Qj | refine Qk ?_ GE151.out) | exact HB.out)) hb); clear BK151; clear HB; have BK151 := n0_; have HB := n1_; clear n0_ n1_; (try clear hb); (try clear hb2); (try clear hk); (try clear hi)))
   go_ret
   exact ⟨by first | rfl | (simp [Qw, Qx] <;> rfl) | (simp [*, Qw, Qx] <;> rfl), by repeat (first | (with_reducible first | exact HB.out | apply Qi | apply Qa | apply Qj | refine Qk ?_ GE151.out) | exact HB.out)⟩
  ·rw [if_neg c5] at H
   have c5b0 : decide (a1 < 0) = false := decide_eq_false c5
   clear c5
   by_cases c9 : a1 ≥ (l0_0.length : Int)
   ·rw [if_pos c9] at H
    have c9b0 : decide ((l0_0.length : Int) ≤ a1) = true := decide_eq_true c9
    clear c9
    obtain rfl := Option.some.inj H
    go_enter Try.func17, Try.ntmps17
    go_wp2_with (first | ((with_reducible refine QM (N := 2) rfl ?_); (try (refine Q5 (by rfl) ?_; dsimp only)); refine QI ?hg (N := 2) ?hd (cs := #[.slice A0_0 l0_0.length c0_0, .slice A0_1 l0_1.length c0_1, .slice A0_2 l0_2.length c0_2]) (t := 37) ?hr ?_; (case hd => rfl); (case hg => rfl); (case hr => first | (go_simp; done) | (go_simp; rfl)); intro gb151 hg w10 hbox hb; have n0_ := Qf.mk (Qo (by repeat (first | (with_reducible first | exact HB.out | apply Qi | apply Qa | apply Qj) | exact HB.out)) hb); have n1_ := Qf.mk (hbox); have n2_ := Qf.mk ((by rw [hg]; exact (Qp (by repeat (first | (with_reducible first | exact HB.out | apply Qi | apply Qa | apply Qj) | exact HB.out))) : w.heap.size ≤ gb151)); have n3_ := Qf.mk ((by rw [hg]; exact (Qp (by repeat (first | (with_reducible first | exact HB.out | apply Qi | apply Qa | apply Qj) | exact HB.out))) : w.heap.size ≤ gb151)); clear HB; have HB := n0_; have BK151 := n1_; have GW151 := n2_; have GE151 := n3_; clear n0_ n1_ n2_ n3_; clear hb hbox hg; have hcz11_0 : w10.cell? ⟨gb151, 0, none⟩ = some (.slice A0_0 l0_0.length c0_0) := (Qe BK151.out 0).trans rfl; have hcz11_1 : w10.cell? ⟨gb151, 1, none⟩ = some (.slice A0_1 l0_1.length c0_1) := (Qe BK151.out 1).trans rfl; have hcz11_2 : w10.cell? ⟨gb151, 2, none⟩ = some (.slice A0_2 l0_2.length c0_2) := (Qe BK151.out 2).trans rfl; have hfz11_0 := Qc BK151.out 0; have hfz11_1 := Qc BK151.out 1; have hfz11_2 := Qc BK151.out 2) | ((with_reducible refine Q4 (f := 20) rfl ?_); refine goesL_ (some 6) rfl rfl Try.func20 (by kernel_rfl) rfl #[.agg #[.slice A0_0 l0_0.length c0_0, .slice A0_1 l0_1.length c0_1, .slice A0_2 l0_2.length c0_2]] rfl (by (try simp only [List.map_toArray, List.map_cons, List.map_nil]); first | done | rfl | (simp only [List.length_drop, List.length_take]; rfl)) ?_; (with_reducible refine (Qn.calls k _ _ l0_0 _ _ l0_1 _ _ l0_2 t152 _ ?side1 ?side2 ?side3 ?side4 ?side5 ?side6 A3.out).mono ?_); (case side1 => repeat (first | exact (Kd.Qr HR0_0.out HB.out) | (with_reducible refine Kd.QG ?_ _) | (with_reducible refine Kd.QH ?_ _) | (with_reducible refine Kd.QO ?_))); (case side2 => exact HC0_0.out); (case side3 => repeat (first | exact (Kd.Qr HR0_1.out HB.out) | (with_reducible refine Kd.QG ?_ _) | (with_reducible refine Kd.QH ?_ _) | (with_reducible refine Kd.QO ?_))); (case side4 => exact HC0_1.out); (case side5 => repeat (first | exact (Kd.Qr HR0_2.out HB.out) | (with_reducible refine Kd.QG ?_ _) | (with_reducible refine Kd.QH ?_ _) | (with_reducible refine Kd.QO ?_))); (case side6 => exact HC0_2.out); rintro e w12 ⟨rfl, hb⟩; refine ⟨_, rfl, ?_⟩; have n0_ := Qf.mk (QF (g := gb151) (o := .cells #[.slice A0_0 l0_0.length c0_0, .slice A0_1 l0_1.length c0_1, .slice A0_2 l0_2.length c0_2] 37 (0, 0)) (by (with_reducible repeat (first | refine Qd ?_ _ | refine Qg ?_ | refine Qb ?_ _)); exact BK151.out) hb); have n1_ := Qf.mk (Qo (by repeat (first | (with_reducible first | exact HB.out | apply Qi | apply Qa | apply Qj | refine Qk ?_ GE151.out) | exact HB.out)) hb); clear BK151; clear HB; have BK151 := n0_; have HB := n1_; clear n0_ n1_; (try clear hb); (try clear hb2); (try clear hk); (try clear hi); have hcz13_0 : w12.cell? ⟨gb151, 0, none⟩ = some (.slice A0_0 l0_0.length c0_0) := (Qe BK151.out 0).trans rfl; have hcz13_1 : w12.cell? ⟨gb151, 1, none⟩ = some (.slice A0_1 l0_1.length c0_1) := (Qe BK151.out 1).trans rfl; have hcz13_2 : w12.cell? ⟨gb151, 2, none⟩ = some (.slice A0_2 l0_2.length c0_2) := (Qe BK151.out 2).trans rfl; have hfz13_0 := Qc BK151.out 0; have hfz13_1 := Qc BK151.out 1; have hfz13_2 := Qc BK151.out 2))
    go_ret
    exact ⟨by first | rfl | (simp [Qw, Qx] <;> rfl) | (simp [*, Qw, Qx] <;> rfl), by repeat (first | (with_reducible first | exact HB.out | apply Qi | apply Qa | apply Qj | refine Qk ?_ GE151.out) | exact HB.out)⟩
   ·rw [if_neg c9] at H
    have c9b0 : decide ((l0_0.length : Int) ≤ a1) = false := decide_eq_false c9
    clear c9
    obtain rfl := Option.some.inj H
    go_enter Try.func17, Try.ntmps17
    go_wp2_with (first | ((with_reducible refine QM (N := 2) rfl ?_); (try (refine Q5 (by rfl) ?_; dsimp only)); refine QI ?hg (N := 2) ?hd (cs := #[.slice A0_0 l0_0.length c0_0, .slice A0_1 l0_1.length c0_1, .slice A0_2 l0_2.length c0_2]) (t := 37) ?hr ?_; (case hd => rfl); (case hg => rfl); (case hr => first | (go_simp; done) | (go_simp; rfl)); intro gb151 hg w14 hbox hb; have n0_ := Qf.mk (Qo (by repeat (first | (with_reducible first | exact HB.out | apply Qi | apply Qa | apply Qj) | exact HB.out)) hb); have n1_ := Qf.mk (hbox); have n2_ := Qf.mk ((by rw [hg]; exact (Qp (by repeat (first | (with_reducible first | exact HB.out | apply Qi | apply Qa | apply Qj) | exact HB.out))) : w.heap.size ≤ gb151)); have n3_ := Qf.mk ((by rw [hg]; exact (Qp (by repeat (first | (with_reducible first | exact HB.out | apply Qi | apply Qa | apply Qj) | exact HB.out))) : w.heap.size ≤ gb151)); clear HB; have HB := n0_; have BK151 := n1_; have GW151 := n2_; have GE151 := n3_; clear n0_ n1_ n2_ n3_; clear hb hbox hg; have hcz15_0 : w14.cell? ⟨gb151, 0, none⟩ = some (.slice A0_0 l0_0.length c0_0) := (Qe BK151.out 0).trans rfl; have hcz15_1 : w14.cell? ⟨gb151, 1, none⟩ = some (.slice A0_1 l0_1.length c0_1) := (Qe BK151.out 1).trans rfl; have hcz15_2 : w14.cell? ⟨gb151, 2, none⟩ = some (.slice A0_2 l0_2.length c0_2) := (Qe BK151.out 2).trans rfl; have hfz15_0 := Qc BK151.out 0; have hfz15_1 := Qc BK151.out 1; have hfz15_2 := Qc BK151.out 2) | ((with_reducible refine Q4 (f := 20) rfl ?_); refine goesL_ (some 6) rfl rfl Try.func20 (by kernel_rfl) rfl #[.agg #[.slice A0_0 l0_0.length c0_0, .slice A0_1 l0_1.length c0_1, .slice A0_2 l0_2.length c0_2]] rfl (by (try simp only [List.map_toArray, List.map_cons, List.map_nil]); first | done | rfl | (simp only [List.length_drop, List.length_take]; rfl)) ?_; (with_reducible refine (Qn.calls k _ _ l0_0 _ _ l0_1 _ _ l0_2 t152 _ ?side1 ?side2 ?side3 ?side4 ?side5 ?side6 A3.out).mono ?_); (case side1 => repeat (first | exact (Kd.Qr HR0_0.out HB.out) | (with_reducible refine Kd.QG ?_ _) | (with_reducible refine Kd.QH ?_ _) | (with_reducible refine Kd.QO ?_))); (case side2 => exact HC0_0.out); (case side3 => repeat (first | exact (Kd.Qr HR0_1.out HB.out) | (with_reducible refine Kd.QG ?_ _) | (with_reducible refine Kd.QH ?_ _) | (with_reducible refine Kd.QO ?_))); (case side4 => exact HC0_1.out); (case side5 => repeat (first | exact (Kd.Qr HR0_2.out HB.out) | (with_reducible refine Kd.QG ?_ _) | (with_reducible refine Kd.QH ?_ _) | (with_reducible refine Kd.QO ?_))); (case side6 => exact HC0_2.out); rintro e w16 ⟨rfl, hb⟩; refine ⟨_, rfl, ?_⟩; have n0_ := Qf.mk (QF (g := gb151) (o := .cells #[.slice A0_0 l0_0.length c0_0, .slice A0_1 l0_1.length c0_1, .slice A0_2 l0_2.length c0_2] 37 (0, 0)) (by (with_reducible repeat (first | refine Qd ?_ _ | refine Qg ?_ | refine Qb ?_ _)); exact BK151.out) hb); have n1_ := Qf.mk (Qo (by repeat (first | (with_reducible first | exact HB.out | apply Qi | apply Qa | apply Qj | refine Qk ?_ GE151.out) | exact HB.out)) hb); clear BK151; clear HB; have BK151 := n0_; have HB := n1_; clear n0_ n1_; (try clear hb); (try clear hb2); (try clear hk); (try clear hi); have hcz17_0 : w16.cell? ⟨gb151, 0, none⟩ = some (.slice A0_0 l0_0.length c0_0) := (Qe BK151.out 0).trans rfl; have hcz17_1 : w16.cell? ⟨gb151, 1, none⟩ = some (.slice A0_1 l0_1.length c0_1) := (Qe BK151.out 1).trans rfl; have hcz17_2 : w16.cell? ⟨gb151, 2, none⟩ = some (.slice A0_2 l0_2.length c0_2) := (Qe BK151.out 2).trans rfl; have hfz17_0 := Qc BK151.out 0; have hfz17_1 := Qc BK151.out 1; have hfz17_2 := Qc BK151.out 2))
    go_ret
    exact ⟨by first | rfl | (simp [Qw, Qx] <;> rfl) | (simp [*, Qw, Qx] <;> rfl), by repeat (first | (with_reducible first | exact HB.out | apply Qi | apply Qa | apply Qj | refine Qk ?_ GE151.out) | exact HB.out)⟩
 ·rw [if_neg c4] at H
  have c4b0 : (t152 == 0) = false := beq_eq_false_iff_ne.mpr c4
  have c4b1 : (t152 != 0) = true := bne_iff_ne.mpr c4
  obtain rfl := Option.some.inj H
  go_enter Try.func17, Try.ntmps17
  go_wp2_with (first | ((with_reducible refine QM (N := 2) rfl ?_); (try (refine Q5 (by rfl) ?_; dsimp only)); refine QI ?hg (N := 2) ?hd (cs := #[.slice A0_0 l0_0.length c0_0, .slice A0_1 l0_1.length c0_1, .slice A0_2 l0_2.length c0_2]) (t := 37) ?hr ?_; (case hd => rfl); (case hg => rfl); (case hr => first | (go_simp; done) | (go_simp; rfl)); intro gb151 hg w18 hbox hb; have n0_ := Qf.mk (Qo (by repeat (first | (with_reducible first | exact HB.out | apply Qi | apply Qa | apply Qj) | exact HB.out)) hb); have n1_ := Qf.mk (hbox); have n2_ := Qf.mk ((by rw [hg]; exact (Qp (by repeat (first | (with_reducible first | exact HB.out | apply Qi | apply Qa | apply Qj) | exact HB.out))) : w.heap.size ≤ gb151)); have n3_ := Qf.mk ((by rw [hg]; exact (Qp (by repeat (first | (with_reducible first | exact HB.out | apply Qi | apply Qa | apply Qj) | exact HB.out))) : w.heap.size ≤ gb151)); clear HB; have HB := n0_; have BK151 := n1_; have GW151 := n2_; have GE151 := n3_; clear n0_ n1_ n2_ n3_; clear hb hbox hg; have hcz19_0 : w18.cell? ⟨gb151, 0, none⟩ = some (.slice A0_0 l0_0.length c0_0) := (Qe BK151.out 0).trans rfl; have hcz19_1 : w18.cell? ⟨gb151, 1, none⟩ = some (.slice A0_1 l0_1.length c0_1) := (Qe BK151.out 1).trans rfl; have hcz19_2 : w18.cell? ⟨gb151, 2, none⟩ = some (.slice A0_2 l0_2.length c0_2) := (Qe BK151.out 2).trans rfl; have hfz19_0 := Qc BK151.out 0; have hfz19_1 := Qc BK151.out 1; have hfz19_2 := Qc BK151.out 2) | ((with_reducible refine Q4 (f := 20) rfl ?_); refine goesL_ (some 6) rfl rfl Try.func20 (by kernel_rfl) rfl #[.agg #[.slice A0_0 l0_0.length c0_0, .slice A0_1 l0_1.length c0_1, .slice A0_2 l0_2.length c0_2]] rfl (by (try simp only [List.map_toArray, List.map_cons, List.map_nil]); first | done | rfl | (simp only [List.length_drop, List.length_take]; rfl)) ?_; (with_reducible refine (Qn.calls k _ _ l0_0 _ _ l0_1 _ _ l0_2 t152 _ ?side1 ?side2 ?side3 ?side4 ?side5 ?side6 A3.out).mono ?_); (case side1 => repeat (first | exact (Kd.Qr HR0_0.out HB.out) | (with_reducible refine Kd.QG ?_ _) | (with_reducible refine Kd.QH ?_ _) | (with_reducible refine Kd.QO ?_))); (case side2 => exact HC0_0.out); (case side3 => repeat (first | exact (Kd.Qr HR0_1.out HB.out) | (with_reducible refine Kd.QG ?_ _) | (with_reducible refine Kd.QH ?_ _) | (with_reducible refine Kd.QO ?_))); (case side4 => exact HC0_1.out); (case side5 => repeat (first | exact (Kd.Qr HR0_2.out HB.out) | (with_reducible refine Kd.QG ?_ _) | (with_reducible refine Kd.QH ?_ _) | (with_reducible refine Kd.QO ?_))); (case side6 => exact HC0_2.out); rintro e w20 ⟨rfl, hb⟩; refine ⟨_, rfl, ?_⟩; have n0_ := Qf.mk (QF (g := gb151) (o := .cells #[.slice A0_0 l0_0.length c0_0, .slice A0_1 l0_1.length c0_1, .slice A0_2 l0_2.length c0_2] 37 (0, 0)) (by (with_reducible repeat (first | refine Qd ?_ _ | refine Qg ?_ | refine Qb ?_ _)); exact BK151.out) hb); have n1_ := Qf.mk (Qo (by repeat (first | (with_reducible first | exact HB.out | apply Qi | apply Qa | apply Qj | refine Qk ?_ GE151.out) | exact HB.out)) hb); clear BK151; clear HB; have BK151 := n0_; have HB := n1_; clear n0_ n1_; (try clear hb); (try clear hb2); (try clear hk); (try clear hi)))
  go_ret
  exact ⟨by first | rfl | (simp [Qw, Qx] <;> rfl) | (simp [*, Qw, Qx] <;> rfl), by repeat (first | (with_reducible first | exact HB.out | apply Qi | apply Qa | apply Qj | refine Qk ?_ GE151.out) | exact HB.out)⟩

/-! ### QW: function 19 -/
def QW.f (k : Nat) (l0_0 : List Int) (l0_1 : List (S158)) (l0_2 : List (S58)) (a1 : Int) : Option (Int) := (Qn.f k l0_0 l0_1 l0_2).bind fun t154 => (if t154 = 0 then (if a1 < 0 then (some (-1)) else (if a1 ≥ (l0_0.length : Int) then (some (-1)) else (some (wrap64 ((wrap64 ((l0_2.length : Int) + (l0_0.length : Int))) + a1))))) else (some (-1)))
theorem QW.mono : ∀ a0 a1 a2 a3 k, LeO (QW.f k a0 a1 a2 a3) (QW.f (k + 1) a0 a1 a2 a3) := by
 intro a0 a1 a2 a3 k
 unfold QW.f
 repeat' first
   | (with_reducible exact Qn.mono _ _ _ _)
   | (with_reducible exact LeO.refl _)
   | (with_reducible exact LeO.none _)
   | (with_reducible refine LeO.ite ?_ ?_)
   | (with_reducible refine LeO.bind ?_ (fun _ => ?_))
   | exact Qn.mono _ _ _ _
   | exact LeO.none _
   | refine LeO.ite ?_ ?_
   | refine LeO.bind ?_ (fun _ => ?_)
set_option maxHeartbeats 8000000 in
set_option maxRecDepth 100000 in
theorem QW.calls (k : Nat) (A0_0 : Option Addr) (c0_0 : Nat) (l0_0 : List Int) (A0_1 : Option Addr) (c0_1 : Nat) (l0_1 : List (S158)) (A0_2 : Option Addr) (c0_2 : Nat) (l0_2 : List (S58)) (a1 : Int) (r : Int) (w : World) (hr0_0 : Kd.C (Kd.int .i64) w A0_0 l0_0.length l0_0) (hc0_0 : l0_0.length ≤ c0_0) (hr0_1 : Kd.C k158 w A0_1 l0_1.length l0_1) (hc0_1 : l0_1.length ≤ c0_1) (hr0_2 : Kd.C k58 w A0_2 l0_2.length l0_2) (hc0_2 : l0_2.length ≤ c0_2) (h : QW.f k l0_0 l0_1 l0_2 a1 = some r) :
  Calls Try.prog 19 #[.agg #[.slice A0_0 l0_0.length c0_0, .slice A0_1 l0_1.length c0_1, .slice A0_2 l0_2.length c0_2], .int .i64 a1] w fun e w' => e = .returned (.int .i64 r) ∧ Below w.heap.size w w' := by
 have hu37 := Try.underlying37
 have HR0_0 := Qf.mk hr0_0
 have HC0_0 := Qf.mk hc0_0
 clear hr0_0 hc0_0
 have HR0_1 := Qf.mk hr0_1
 have HC0_1 := Qf.mk hc0_1
 clear hr0_1 hc0_1
 have HR0_2 := Qf.mk hr0_2
 have HC0_2 := Qf.mk hc0_2
 clear hr0_2 hc0_2
 have HB := Qf.mk (Below.refl w.heap.size w)
 have H : ((Qn.f k l0_0 l0_1 l0_2).bind fun t154 => (if t154 = 0 then (if a1 < 0 then (some (-1)) else (if a1 ≥ (l0_0.length : Int) then (some (-1)) else (some (wrap64 ((wrap64 ((l0_2.length : Int) + (l0_0.length : Int))) + a1))))) else (some (-1)))) = some r := h
 clear h
 replace H := Option.bind_eq_some_iff.mp H
 obtain ⟨t154, A30, H⟩ := H
 replace H : (if t154 = 0 then (if a1 < 0 then (some (-1)) else (if a1 ≥ (l0_0.length : Int) then (some (-1)) else (some (wrap64 ((wrap64 ((l0_2.length : Int) + (l0_0.length : Int))) + a1))))) else (some (-1))) = some r := H
 have A3 := Qf.mk A30
 clear A30
 by_cases c4 : t154 = 0
 ·rw [if_pos c4] at H
  have c4b0 : (t154 == 0) = true := beq_iff_eq.mpr c4
  have c4b1 : (t154 != 0) = false := bne_eq_false_iff_eq.mpr c4
  clear c4
  by_cases c5 : a1 < 0
  ·rw [if_pos c5] at H
   have c5b0 : decide (a1 < 0) = true := decide_eq_true c5
   clear c5
   obtain rfl := Option.some.inj H
   go_enter Try.func19, Try.ntmps19
   go_wp2_with (first | ((with_reducible refine QM (N := 2) rfl ?_); (try (refine Q5 (by rfl) ?_; dsimp only)); refine QI ?hg (N := 2) ?hd (cs := #[.slice A0_0 l0_0.length c0_0, .slice A0_1 l0_1.length c0_1, .slice A0_2 l0_2.length c0_2]) (t := 37) ?hr ?_; (case hd => rfl); (case hg => rfl); (case hr => first | (go_simp; done) | (go_simp; rfl)); intro gb153 hg w6 hbox hb; have n0_ := Qf.mk (Qo (by repeat (first | (with_reducible first | exact HB.out | apply Qi | apply Qa | apply Qj) | exact HB.out)) hb); have n1_ := Qf.mk (hbox); have n2_ := Qf.mk ((by rw [hg]; exact (Qp (by repeat (first | (with_reducible first | exact HB.out | apply Qi | apply Qa | apply Qj) | exact HB.out))) : w.heap.size ≤ gb153)); have n3_ := Qf.mk ((by rw [hg]; exact (Qp (by repeat (first | (with_reducible first | exact HB.out | apply Qi | apply Qa | apply Qj) | exact HB.out))) : w.heap.size ≤ gb153)); clear HB; have HB := n0_; have BK153 := n1_; have GW153 := n2_; have GE153 := n3_; clear n0_ n1_ n2_ n3_; clear hb hbox hg; have hcz7_0 : w6.cell? ⟨gb153, 0, none⟩ = some (.slice A0_0 l0_0.length c0_0) := (Qe BK153.out 0).trans rfl; have hcz7_1 : w6.cell? ⟨gb153, 1, none⟩ = some (.slice A0_1 l0_1.length c0_1) := (Qe BK153.out 1).trans rfl; have hcz7_2 : w6.cell? ⟨gb153, 2, none⟩ = some (.slice A0_2 l0_2.length c0_2) := (Qe BK153.out 2).trans rfl; have hfz7_0 := Qc BK153.out 0; have hfz7_1 := Qc BK153.out 1; have hfz7_2 := Qc BK153.out 2) | ((with_reducible refine Q4 (f := 20) rfl ?_); refine goesL_ (some 6) rfl rfl Try.func20 (by kernel_rfl) rfl #[.agg #[.slice A0_0 l0_0.length c0_0, .slice A0_1 l0_1.length c0_1, .slice A0_2 l0_2.length c0_2]] rfl (by (try simp only [List.map_toArray, List.map_cons, List.map_nil]); first | done | rfl | (simp only [List.length_drop, List.length_take]; rfl)) ?_; (with_reducible refine (Qn.calls k _ _ l0_0 _ _ l0_1 _ _ l0_2 t154 _ ?side1 ?side2 ?side3 ?side4 ?side5 ?side6 A3.out).mono ?_); (case side1 => repeat (first | exact (Kd.Qr HR0_0.out HB.out) | (with_reducible refine Kd.QG ?_ _) | (with_reducible refine Kd.QH ?_ _) | (with_reducible refine Kd.QO ?_))); (case side2 => exact HC0_0.out); (case side3 => repeat (first | exact (Kd.Qr HR0_1.out HB.out) | (with_reducible refine Kd.QG ?_ _) | (with_reducible refine Kd.QH ?_ _) | (with_reducible refine Kd.QO ?_))); (case side4 => exact HC0_1.out); (case side5 => repeat (first | exact (Kd.Qr HR0_2.out HB.out) | (with_reducible refine Kd.QG ?_ _) | (with_reducible refine Kd.QH ?_ _) | (with_reducible refine Kd.QO ?_))); (case side6 => exact HC0_2.out); rintro e w8 ⟨rfl, hb⟩; refine ⟨_, rfl, ?_⟩; have n0_ := Qf.mk (QF (g := gb153) (o := .cells #[.slice A0_0 l0_0.length c0_0, .slice A0_1 l0_1.length c0_1, .slice A0_2 l0_2.length c0_2] 37 (0, 0)) (by (with_reducible repeat (first | refine Qd ?_ _ | refine Qg ?_ | refine Qb ?_ _)); exact BK153.out) hb); have n1_ := Qf.mk (Qo (by repeat (first | (with_reducible first | exact HB.out | apply Qi | apply Qa | apply Qj | refine Qk ?_ GE153.out) | exact HB.out)) hb); clear BK153; clear HB; have BK153 := n0_; have HB := n1_; clear n0_ n1_; (try clear hb); (try clear hb2); (try clear hk); (try clear hi)))
   go_ret
   exact ⟨by first | rfl | (simp [Qw, Qx] <;> rfl) | (simp [*, Qw, Qx] <;> rfl), by repeat (first | (with_reducible first | exact HB.out | apply Qi | apply Qa | apply Qj | refine Qk ?_ GE153.out) | exact HB.out)⟩
  ·rw [if_neg c5] at H
   have c5b0 : decide (a1 < 0) = false := decide_eq_false c5
   clear c5
   by_cases c9 : a1 ≥ (l0_0.length : Int)
   ·rw [if_pos c9] at H
    have c9b0 : decide ((l0_0.length : Int) ≤ a1) = true := decide_eq_true c9
    clear c9
    obtain rfl := Option.some.inj H
    go_enter Try.func19, Try.ntmps19
    go_wp2_with (first | ((with_reducible refine QM (N := 2) rfl ?_); (try (refine Q5 (by rfl) ?_; dsimp only)); refine QI ?hg (N := 2) ?hd (cs := #[.slice A0_0 l0_0.length c0_0, .slice A0_1 l0_1.length c0_1, .slice A0_2 l0_2.length c0_2]) (t := 37) ?hr ?_; (case hd => rfl); (case hg => rfl); (case hr => first | (go_simp; done) | (go_simp; rfl)); intro gb153 hg w10 hbox hb; have n0_ := Qf.mk (Qo (by repeat (first | (with_reducible first | exact HB.out | apply Qi | apply Qa | apply Qj) | exact HB.out)) hb); have n1_ := Qf.mk (hbox); have n2_ := Qf.mk ((by rw [hg]; exact (Qp (by repeat (first | (with_reducible first | exact HB.out | apply Qi | apply Qa | apply Qj) | exact HB.out))) : w.heap.size ≤ gb153)); have n3_ := Qf.mk ((by rw [hg]; exact (Qp (by repeat (first | (with_reducible first | exact HB.out | apply Qi | apply Qa | apply Qj) | exact HB.out))) : w.heap.size ≤ gb153)); clear HB; have HB := n0_; have BK153 := n1_; have GW153 := n2_; have GE153 := n3_; clear n0_ n1_ n2_ n3_; clear hb hbox hg; have hcz11_0 : w10.cell? ⟨gb153, 0, none⟩ = some (.slice A0_0 l0_0.length c0_0) := (Qe BK153.out 0).trans rfl; have hcz11_1 : w10.cell? ⟨gb153, 1, none⟩ = some (.slice A0_1 l0_1.length c0_1) := (Qe BK153.out 1).trans rfl; have hcz11_2 : w10.cell? ⟨gb153, 2, none⟩ = some (.slice A0_2 l0_2.length c0_2) := (Qe BK153.out 2).trans rfl; have hfz11_0 := Qc BK153.out 0; have hfz11_1 := Qc BK153.out 1; have hfz11_2 := Qc BK153.out 2) | ((with_reducible refine Q4 (f := 20) rfl ?_); refine goesL_ (some 6) rfl rfl Try.func20 (by kernel_rfl) rfl #[.agg #[.slice A0_0 l0_0.length c0_0, .slice A0_1 l0_1.length c0_1, .slice A0_2 l0_2.length c0_2]] rfl (by (try simp only [List.map_toArray, List.map_cons, List.map_nil]); first | done | rfl | (simp only [List.length_drop, List.length_take]; rfl)) ?_; (with_reducible refine (Qn.calls k _ _ l0_0 _ _ l0_1 _ _ l0_2 t154 _ ?side1 ?side2 ?side3 ?side4 ?side5 ?side6 A3.out).mono ?_); (case side1 => repeat (first | exact (Kd.Qr HR0_0.out HB.out) | (with_reducible refine Kd.QG ?_ _) | (with_reducible refine Kd.QH ?_ _) | (with_reducible refine Kd.QO ?_))); (case side2 => exact HC0_0.out); (case side3 => repeat (first | exact (Kd.Qr HR0_1.out HB.out) | (with_reducible refine Kd.QG ?_ _) | (with_reducible refine Kd.QH ?_ _) | (with_reducible refine Kd.QO ?_))); (case side4 => exact HC0_1.out); (case side5 => repeat (first | exact (Kd.Qr HR0_2.out HB.out) | (with_reducible refine Kd.QG ?_ _) | (with_reducible refine Kd.QH ?_ _) | (with_reducible refine Kd.QO ?_))); (case side6 => exact HC0_2.out); rintro e w12 ⟨rfl, hb⟩; refine ⟨_, rfl, ?_⟩; have n0_ := Qf.mk (QF (g := gb153) (o := .cells #[.slice A0_0 l0_0.length c0_0, .slice A0_1 l0_1.length c0_1, .slice A0_2 l0_2.length c0_2] 37 (0, 0)) (by (with_reducible repeat (first | refine Qd ?_ _ | refine Qg ?_ | refine Qb ?_ _)); exact BK153.out) hb); have n1_ := Qf.mk (Qo (by repeat (first | (with_reducible first | exact HB.out | apply Qi | apply Qa | apply Qj | refine Qk ?_ GE153.out) | exact HB.out)) hb); clear BK153; clear HB; have BK153 := n0_; have HB := n1_; clear n0_ n1_; (try clear hb); (try clear hb2); (try clear hk); (try clear hi); have hcz13_0 : w12.cell? ⟨gb153, 0, none⟩ = some (.slice A0_0 l0_0.length c0_0) := (Qe BK153.out 0).trans rfl; have hcz13_1 : w12.cell? ⟨gb153, 1, none⟩ = some (.slice A0_1 l0_1.length c0_1) := (Qe BK153.out 1).trans rfl; have hcz13_2 : w12.cell? ⟨gb153, 2, none⟩ = some (.slice A0_2 l0_2.length c0_2) := (Qe BK153.out 2).trans rfl; have hfz13_0 := Qc BK153.out 0; have hfz13_1 := Qc BK153.out 1; have hfz13_2 := Qc BK153.out 2))
    go_ret
    exact ⟨by first | rfl | (simp [Qw, Qx] <;> rfl) | (simp [*, Qw, Qx] <;> rfl), by repeat (first | (with_reducible first | exact HB.out | apply Qi | apply Qa | apply Qj | refine Qk ?_ GE153.out) | exact HB.out)⟩
   ·rw [if_neg c9] at H
    have c9b0 : decide ((l0_0.length : Int) ≤ a1) = false := decide_eq_false c9
    clear c9
    obtain rfl := Option.some.inj H
    go_enter Try.func19, Try.ntmps19
    go_wp2_with (first | ((with_reducible refine QM (N := 2) rfl ?_); (try (refine Q5 (by rfl) ?_; dsimp only)); refine QI ?hg (N := 2) ?hd (cs := #[.slice A0_0 l0_0.length c0_0, .slice A0_1 l0_1.length c0_1, .slice A0_2 l0_2.length c0_2]) (t := 37) ?hr ?_; (case hd => rfl); (case hg => rfl); (case hr => first | (go_simp; done) | (go_simp; rfl)); intro gb153 hg w14 hbox hb; have n0_ := Qf.mk (Qo (by repeat (first | (with_reducible first | exact HB.out | apply Qi | apply Qa | apply Qj) | exact HB.out)) hb); have n1_ := Qf.mk (hbox); have n2_ := Qf.mk ((by rw [hg]; exact (Qp (by repeat (first | (with_reducible first | exact HB.out | apply Qi | apply Qa | apply Qj) | exact HB.out))) : w.heap.size ≤ gb153)); have n3_ := Qf.mk ((by rw [hg]; exact (Qp (by repeat (first | (with_reducible first | exact HB.out | apply Qi | apply Qa | apply Qj) | exact HB.out))) : w.heap.size ≤ gb153)); clear HB; have HB := n0_; have BK153 := n1_; have GW153 := n2_; have GE153 := n3_; clear n0_ n1_ n2_ n3_; clear hb hbox hg; have hcz15_0 : w14.cell? ⟨gb153, 0, none⟩ = some (.slice A0_0 l0_0.length c0_0) := (Qe BK153.out 0).trans rfl; have hcz15_1 : w14.cell? ⟨gb153, 1, none⟩ = some (.slice A0_1 l0_1.length c0_1) := (Qe BK153.out 1).trans rfl; have hcz15_2 : w14.cell? ⟨gb153, 2, none⟩ = some (.slice A0_2 l0_2.length c0_2) := (Qe BK153.out 2).trans rfl; have hfz15_0 := Qc BK153.out 0; have hfz15_1 := Qc BK153.out 1; have hfz15_2 := Qc BK153.out 2) | ((with_reducible refine Q4 (f := 20) rfl ?_); refine goesL_ (some 6) rfl rfl Try.func20 (by kernel_rfl) rfl #[.agg #[.slice A0_0 l0_0.length c0_0, .slice A0_1 l0_1.length c0_1, .slice A0_2 l0_2.length c0_2]] rfl (by (try simp only [List.map_toArray, List.map_cons, List.map_nil]); first | done | rfl | (simp only [List.length_drop, List.length_take]; rfl)) ?_; (with_reducible refine (Qn.calls k _ _ l0_0 _ _ l0_1 _ _ l0_2 t154 _ ?side1 ?side2 ?side3 ?side4 ?side5 ?side6 A3.out).mono ?_); (case side1 => repeat (first | exact (Kd.Qr HR0_0.out HB.out) | (with_reducible refine Kd.QG ?_ _) | (with_reducible refine Kd.QH ?_ _) | (with_reducible refine Kd.QO ?_))); (case side2 => exact HC0_0.out); (case side3 => repeat (first | exact (Kd.Qr HR0_1.out HB.out) | (with_reducible refine Kd.QG ?_ _) | (with_reducible refine Kd.QH ?_ _) | (with_reducible refine Kd.QO ?_))); (case side4 => exact HC0_1.out); (case side5 => repeat (first | exact (Kd.Qr HR0_2.out HB.out) | (with_reducible refine Kd.QG ?_ _) | (with_reducible refine Kd.QH ?_ _) | (with_reducible refine Kd.QO ?_))); (case side6 => exact HC0_2.out); rintro e w16 ⟨rfl, hb⟩; refine ⟨_, rfl, ?_⟩; have n0_ := Qf.mk (QF (g := gb153) (o := .cells #[.slice A0_0 l0_0.length c0_0, .slice A0_1 l0_1.length c0_1, .slice A0_2 l0_2.length c0_2] 37 (0, 0)) (by (with_reducible repeat (first | refine Qd ?_ _ | refine Qg ?_ | refine Qb ?_ _)); exact BK153.out) hb); have n1_ := Qf.mk (Qo (by repeat (first | (with_reducible first | exact HB.out | apply Qi | apply Qa | apply Qj | refine Qk ?_ GE153.out) | exact HB.out)) hb); clear BK153; clear HB; have BK153 := n0_; have HB := n1_; clear n0_ n1_; (try clear hb); (try clear hb2); (try clear hk); (try clear hi); have hcz17_0 : w16.cell? ⟨gb153, 0, none⟩ = some (.slice A0_0 l0_0.length c0_0) := (Qe BK153.out 0).trans rfl; have hcz17_1 : w16.cell? ⟨gb153, 1, none⟩ = some (.slice A0_1 l0_1.length c0_1) := (Qe BK153.out 1).trans rfl; have hcz17_2 : w16.cell? ⟨gb153, 2, none⟩ = some (.slice A0_2 l0_2.length c0_2) := (Qe BK153.out 2).trans rfl; have hfz17_0 := Qc BK153.out 0; have hfz17_1 := Qc BK153.out 1; have hfz17_2 := Qc BK153.out 2))
    go_ret
    exact ⟨by first | rfl | (simp [Qw, Qx] <;> rfl) | (simp [*, Qw, Qx] <;> rfl), by repeat (first | (with_reducible first | exact HB.out | apply Qi | apply Qa | apply Qj | refine Qk ?_ GE153.out) | exact HB.out)⟩
 ·rw [if_neg c4] at H
  have c4b0 : (t154 == 0) = false := beq_eq_false_iff_ne.mpr c4
  have c4b1 : (t154 != 0) = true := bne_iff_ne.mpr c4
  obtain rfl := Option.some.inj H
  go_enter Try.func19, Try.ntmps19
  go_wp2_with (first | ((with_reducible refine QM (N := 2) rfl ?_); (try (refine Q5 (by rfl) ?_; dsimp only)); refine QI ?hg (N := 2) ?hd (cs := #[.slice A0_0 l0_0.length c0_0, .slice A0_1 l0_1.length c0_1, .slice A0_2 l0_2.length c0_2]) (t := 37) ?hr ?_; (case hd => rfl); (case hg => rfl); (case hr => first | (go_simp; done) | (go_simp; rfl)); intro gb153 hg w18 hbox hb; have n0_ := Qf.mk (Qo (by repeat (first | (with_reducible first | exact HB.out | apply Qi | apply Qa | apply Qj) | exact HB.out)) hb); have n1_ := Qf.mk (hbox); have n2_ := Qf.mk ((by rw [hg]; exact (Qp (by repeat (first | (with_reducible first | exact HB.out | apply Qi | apply Qa | apply Qj) | exact HB.out))) : w.heap.size ≤ gb153)); have n3_ := Qf.mk ((by rw [hg]; exact (Qp (by repeat (first | (with_reducible first | exact HB.out | apply Qi | apply Qa | apply Qj) | exact HB.out))) : w.heap.size ≤ gb153)); clear HB; have HB := n0_; have BK153 := n1_; have GW153 := n2_; have GE153 := n3_; clear n0_ n1_ n2_ n3_; clear hb hbox hg; have hcz19_0 : w18.cell? ⟨gb153, 0, none⟩ = some (.slice A0_0 l0_0.length c0_0) := (Qe BK153.out 0).trans rfl; have hcz19_1 : w18.cell? ⟨gb153, 1, none⟩ = some (.slice A0_1 l0_1.length c0_1) := (Qe BK153.out 1).trans rfl; have hcz19_2 : w18.cell? ⟨gb153, 2, none⟩ = some (.slice A0_2 l0_2.length c0_2) := (Qe BK153.out 2).trans rfl; have hfz19_0 := Qc BK153.out 0; have hfz19_1 := Qc BK153.out 1; have hfz19_2 := Qc BK153.out 2) | ((with_reducible refine Q4 (f := 20) rfl ?_); refine goesL_ (some 6) rfl rfl Try.func20 (by kernel_rfl) rfl #[.agg #[.slice A0_0 l0_0.length c0_0, .slice A0_1 l0_1.length c0_1, .slice A0_2 l0_2.length c0_2]] rfl (by (try simp only [List.map_toArray, List.map_cons, List.map_nil]); first | done | rfl | (simp only [List.length_drop, List.length_take]; rfl)) ?_; (with_reducible refine (Qn.calls k _ _ l0_0 _ _ l0_1 _ _ l0_2 t154 _ ?side1 ?side2 ?side3 ?side4 ?side5 ?side6 A3.out).mono ?_); (case side1 => repeat (first | exact (Kd.Qr HR0_0.out HB.out) | (with_reducible refine Kd.QG ?_ _) | (with_reducible refine Kd.QH ?_ _) | (with_reducible refine Kd.QO ?_))); (case side2 => exact HC0_0.out); (case side3 => repeat (first | exact (Kd.Qr HR0_1.out HB.out) | (with_reducible refine Kd.QG ?_ _) | (with_reducible refine Kd.QH ?_ _) | (with_reducible refine Kd.QO ?_))); (case side4 => exact HC0_1.out); (case side5 => repeat (first | exact (Kd.Qr HR0_2.out HB.out) | (with_reducible refine Kd.QG ?_ _) | (with_reducible refine Kd.QH ?_ _) | (with_reducible refine Kd.QO ?_))); (case side6 => exact HC0_2.out); rintro e w20 ⟨rfl, hb⟩; refine ⟨_, rfl, ?_⟩; have n0_ := Qf.mk (QF (g := gb153) (o := .cells #[.slice A0_0 l0_0.length c0_0, .slice A0_1 l0_1.length c0_1, .slice A0_2 l0_2.length c0_2] 37 (0, 0)) (by (with_reducible repeat (first | refine Qd ?_ _ | refine Qg ?_ | refine Qb ?_ _)); exact BK153.out) hb); have n1_ := Qf.mk (Qo (by repeat (first | (with_reducible first | exact HB.out | apply Qi | apply Qa | apply Qj | refine Qk ?_ GE153.out) | exact HB.out)) hb); clear BK153; clear HB; have BK153 := n0_; have HB := n1_; clear n0_ n1_; (try clear hb); (try clear hb2); (try clear hk); (try clear hi)))
  go_ret
  exact ⟨by first | rfl | (simp [Qw, Qx] <;> rfl) | (simp [*, Qw, Qx] <;> rfl), by repeat (first | (with_reducible first | exact HB.out | apply Qi | apply Qa | apply Qj | refine Qk ?_ GE153.out) | exact HB.out)⟩

end Go.Proofs.Ytbkfjmpnbalkaaa.QTurnsPieces
