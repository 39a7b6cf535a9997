-- Written by a program of this session (wip/ext.py) with the kit's print; Lean checks it.
import Derived.Test.YtbkfjmpnbalkaaaQTurnsPiecesx0
import Derived.Test.YtbkfjmpnbalkaaaQTurnsPiecesx5
import Derived.Test.YtbkfjmpnbalkaaaQTurnsPiecesx6
import Derived.Test.YtbkfjmpnbalkaaaQTurnsPiecesx7
import Derived.Test.YtbkfjmpnbalkaaaQTurnsPiecesx12
namespace Go.Proofs.Ytbkfjmpnbalkaaa.QTurnsPieces
open Go.RowKit Go.Proofs.YtbkfjmpnbalkaaaW.PrintWords Go.Proofs.YtbkfjmpnbalkaaaW.PrintLast Go.Proofs.YtbkfjmpnbalkaaaW.PrintMore
attribute [local go_sem] max2_int min2_int max_two min_two max_three min_three max_four min_four   -- for this text's walks alone
set_option linter.unusedVariables false
set_option linter.unusedSimpArgs false

/-! ### QK: function 44 -/
def QK.l0 : Nat → List Int → List Int → Int → Option (Bool)
 | 0, _, _, _ => none
 | k + 1, x0, x1, x5 => if x5 < (x0.length : Int) then (if 0 ≤ x5 then (if x5 < (x1.length : Int) then (if (rd x0 x5) = (rd x1 x5) then (QK.l0 k x0 x1 (wrap64 (x5 + 1))) else (some false)) else (none)) else (none)) else (some true)
def QK.f (k : Nat) (l0 : List Int) (l1 : List Int) : Option (Bool) := if (l0.length : Int) = (l1.length : Int) then (QK.l0 k l0 l1 0) else (some false)
theorem QK.mono_l : ∀ k, (∀ y0 y1 y2, LeO (QK.l0 k y0 y1 y2) (QK.l0 (k + 1) y0 y1 y2))
 | 0 => fun _ _ _ r h => by simp [QK.l0] at h
 | k + 1 => by
  have ih0 := QK.mono_l k
  ·intro y0 y1 y2
   unfold QK.l0
   repeat' first
   | (with_reducible exact ih0 _ _ _)
   | (with_reducible exact LeO.refl _)
   | (with_reducible exact LeO.none _)
   | (with_reducible refine LeO.ite ?_ ?_)
   | (with_reducible refine LeO.bind ?_ (fun _ => ?_))
   | exact ih0 _ _ _
   | exact LeO.none _
   | refine LeO.ite ?_ ?_
   | refine LeO.bind ?_ (fun _ => ?_)
theorem QK.mono : ∀ a0 a1 k, LeO (QK.f k a0 a1) (QK.f (k + 1) a0 a1) := by
 intro a0 a1 k
 have ih0 := QK.mono_l k
 unfold QK.f
 repeat' first
   | (with_reducible exact ih0 _ _ _)
   | (with_reducible exact LeO.refl _)
   | (with_reducible exact LeO.none _)
   | (with_reducible refine LeO.ite ?_ ?_)
   | (with_reducible refine LeO.bind ?_ (fun _ => ?_))
   | exact ih0 _ _ _
   | exact LeO.none _
   | refine LeO.ite ?_ ?_
   | refine LeO.bind ?_ (fun _ => ?_)
set_option maxHeartbeats 8000000 in
set_option maxRecDepth 100000 in
theorem QK.calls (k : Nat) (A0 : Option Addr) (c0 : Nat) (l0 : List Int) (A1 : Option Addr) (c1 : Nat) (l1 : List Int) (r : Bool) (w : World) (hr0 : Kd.C (Kd.int .i64) w A0 l0.length l0) (hc0 : l0.length ≤ c0) (hr1 : Kd.C (Kd.int .i64) w A1 l1.length l1) (hc1 : l1.length ≤ c1) (h : QK.f k l0 l1 = some r) :
  Calls Try.prog 44 #[.slice A0 l0.length c0, .slice A1 l1.length c1] w fun e w' => e = .returned (.bool r) ∧ Drawn0 w w' := by
 have HR0 := Qf.mk hr0
 have HC0 := Qf.mk hc0
 clear hr0 hc0
 have HR1 := Qf.mk hr1
 have HC1 := Qf.mk hc1
 clear hr1 hc1
 have H : (if (l0.length : Int) = (l1.length : Int) then (QK.l0 k l0 l1 0) else (some false)) = some r := h
 clear h
 by_cases c3 : (l0.length : Int) = (l1.length : Int)
 ·rw [if_pos c3] at H
  have c3b0 : ((l0.length : Int) == (l1.length : Int)) = true := beq_iff_eq.mpr c3
  have c3b1 : ((l0.length : Int) != (l1.length : Int)) = false := bne_eq_false_iff_eq.mpr c3
  have c3b2 : (l0.length == l1.length) = true := by first | simpa using c3 | (simp at c3 ⊢; omega)
  clear c3
  have H' := Qf.mk H
  clear H
  go_enter Try.func44, Try.ntmps44
  go_wp2
  repeat (go_quiet (fail); try go_wp2)
  go_loopg [5] k (fun kq v5 w' => ∃ (x5_1 : Int), v5 = .int .i64 x5_1 ∧ Qf (QK.l0 kq l0 l1 x5_1 = some r) ∧ Qf (kq ≤ k) ∧ Drawn0 w w')
  case atStart => exact ⟨(0), (by first | rfl | (simp; done) | (simp [*]; done)), H', ⟨Nat.le_refl _⟩, by repeat (first | exact Drawn0.refl _ | apply Drawn0.step)⟩
  case round =>
   clear H'
   try clear c1
   try clear p2
   try clear c3
   try clear c3b0
   try clear c3b1
   try clear c3b2
   obtain ⟨x5_1, rfl, HA, HK1, ⟨m1, rfl⟩⟩ := hrel
   cases gk with
   | zero => exact absurd HA.out (by simp [QK.l0])
   | succ k1 =>
    have H := HA.out
    clear HA
    simp only [QK.l0] at H
    by_cases c4 : x5_1 < (l0.length : Int)
    ·rw [if_pos c4] at H
     have c4b0 : decide (x5_1 < (l0.length : Int)) = true := decide_eq_true c4
     clear c4
     by_cases c5 : 0 ≤ x5_1
     ·rw [if_pos c5] at H
      have c5b0 : decide (0 ≤ x5_1) = true := decide_eq_true c5
      clear c5
      by_cases c6 : x5_1 < (l1.length : Int)
      ·rw [if_pos c6] at H
       have c6b0 : decide (x5_1 < (l1.length : Int)) = true := decide_eq_true c6
       clear c6
       by_cases c7 : (rd l0 x5_1) = (rd l1 x5_1)
       ·rw [if_pos c7] at H
        have c7b0 : ((rd l0 x5_1) == (rd l1 x5_1)) = true := beq_iff_eq.mpr c7
        have c7b1 : ((rd l0 x5_1) != (rd l1 x5_1)) = false := bne_eq_false_iff_eq.mpr c7
        clear c7
        have H' := Qf.mk H
        clear H
        have p193 : 0 ≤ (x5_1 : Int) := of_decide_eq_true (by first | (with_reducible assumption) | assumption)
        have q193 : x5_1 < (l0.length : Int) := of_decide_eq_true (by first | (with_reducible assumption) | assumption)
        obtain ⟨ad193, e193, hx193_0⟩ := Kd.at_int HR0.out x5_1 p193 q193
        cases e193
        replace p193 := eq_true p193
        replace q193 := eq_true q193
        have p194 : 0 ≤ (x5_1 : Int) := of_decide_eq_true (by first | (with_reducible assumption) | assumption)
        have q194 : x5_1 < (l1.length : Int) := of_decide_eq_true (by first | (with_reducible assumption) | assumption)
        obtain ⟨ad194, e194, hx194_0⟩ := Kd.at_int HR1.out x5_1 p194 q194
        cases e194
        replace p194 := eq_true p194
        replace q194 := eq_true q194
        go_wp2
        repeat (go_quiet (fail); try go_wp2)
        go_roundg k1
        case measure => have := HK1.out; omega
        case rel => exact ⟨(wrap64 (x5_1 + 1)), (by first | rfl | (simp; done) | (simp [*]; done)), H', ⟨by have := HK1.out; omega⟩, by repeat (first | exact Drawn0.refl _ | apply Drawn0.step)⟩
       ·rw [if_neg c7] at H
        have c7b0 : ((rd l0 x5_1) == (rd l1 x5_1)) = false := beq_eq_false_iff_ne.mpr c7
        have c7b1 : ((rd l0 x5_1) != (rd l1 x5_1)) = true := bne_iff_ne.mpr c7
        obtain rfl := Option.some.inj H
        have p193 : 0 ≤ (x5_1 : Int) := of_decide_eq_true (by first | (with_reducible assumption) | assumption)
        have q193 : x5_1 < (l0.length : Int) := of_decide_eq_true (by first | (with_reducible assumption) | assumption)
        obtain ⟨ad193, e193, hx193_0⟩ := Kd.at_int HR0.out x5_1 p193 q193
        cases e193
        replace p193 := eq_true p193
        replace q193 := eq_true q193
        have p194 : 0 ≤ (x5_1 : Int) := of_decide_eq_true (by first | (with_reducible assumption) | assumption)
        have q194 : x5_1 < (l1.length : Int) := of_decide_eq_true (by first | (with_reducible assumption) | assumption)
        obtain ⟨ad194, e194, hx194_0⟩ := Kd.at_int HR1.out x5_1 p194 q194
        cases e194
        replace p194 := eq_true p194
        replace q194 := eq_true q194
        go_wp2
        repeat (go_quiet (fail); try go_wp2)
        go_ret
        exact ⟨by first | rfl | (simp; done) | (simp [*]; done), by repeat (first | exact Drawn0.refl _ | apply Drawn0.step)⟩
      ·rw [if_neg c6] at H
       exact absurd H (by simp)
     ·rw [if_neg c5] at H
      exact absurd H (by simp)
    ·rw [if_neg c4] at H
     have c4b0 : decide (x5_1 < (l0.length : Int)) = false := decide_eq_false c4
     clear c4
     obtain rfl := Option.some.inj H
     go_wp2
     repeat (go_quiet (fail); try go_wp2)
     go_ret
     exact ⟨by first | rfl | (simp; done) | (simp [*]; done), by repeat (first | exact Drawn0.refl _ | apply Drawn0.step)⟩
 ·rw [if_neg c3] at H
  have c3b0 : ((l0.length : Int) == (l1.length : Int)) = false := beq_eq_false_iff_ne.mpr c3
  have c3b1 : ((l0.length : Int) != (l1.length : Int)) = true := bne_iff_ne.mpr c3
  have c3b2 : (l0.length == l1.length) = false := by first | simpa using c3 | (simp at c3 ⊢; omega)
  obtain rfl := Option.some.inj H
  go_enter Try.func44, Try.ntmps44
  go_wp2
  repeat (go_quiet (fail); try go_wp2)
  go_ret
  exact ⟨by first | rfl | (simp; done) | (simp [*]; done), by repeat (first | exact Drawn0.refl _ | apply Drawn0.step)⟩

/-! ### QZ: function 27 -/
def QZ.f (k : Nat) (l0 : List Int) (l1 : List Int) : Option (Bool) := (QK.f k l0 l1).bind fun t195 => (some t195)
theorem QZ.mono : ∀ a0 a1 k, LeO (QZ.f k a0 a1) (QZ.f (k + 1) a0 a1) := by
 intro a0 a1 k
 unfold QZ.f
 repeat' first
   | (with_reducible exact QK.mono _ _ _)
   | (with_reducible exact LeO.refl _)
   | (with_reducible exact LeO.none _)
   | (with_reducible refine LeO.ite ?_ ?_)
   | (with_reducible refine LeO.bind ?_ (fun _ => ?_))
   | exact QK.mono _ _ _
   | exact LeO.none _
   | refine LeO.ite ?_ ?_
   | refine LeO.bind ?_ (fun _ => ?_)
set_option maxHeartbeats 8000000 in
set_option maxRecDepth 100000 in
theorem QZ.calls (k : Nat) (A0 : Option Addr) (c0 : Nat) (l0 : List Int) (A1 : Option Addr) (c1 : Nat) (l1 : List Int) (r : Bool) (w : World) (hr0 : Kd.C (Kd.int .i64) w A0 l0.length l0) (hc0 : l0.length ≤ c0) (hr1 : Kd.C (Kd.int .i64) w A1 l1.length l1) (hc1 : l1.length ≤ c1) (h : QZ.f k l0 l1 = some r) :
  Calls Try.prog 27 #[.slice A0 l0.length c0, .slice A1 l1.length c1] w fun e w' => e = .returned (.bool r) ∧ Drawn0 w w' := by
 have HR0 := Qf.mk hr0
 have HC0 := Qf.mk hc0
 clear hr0 hc0
 have HR1 := Qf.mk hr1
 have HC1 := Qf.mk hc1
 clear hr1 hc1
 have H : ((QK.f k l0 l1).bind fun t195 => (some t195)) = some r := h
 clear h
 replace H := Option.bind_eq_some_iff.mp H
 obtain ⟨t195, A30, H⟩ := H
 replace H : (some t195) = some r := H
 have A3 := Qf.mk A30
 clear A30
 obtain rfl := Option.some.inj H
 go_enter Try.func27, Try.ntmps27
 go_wp2_with (first | ((with_reducible refine Q4 (f := 44) rfl ?_); refine goesL_ (some 7) rfl rfl Try.func44 (by kernel_rfl) rfl #[.slice A0 l0.length c0, .slice A1 l1.length c1] rfl (by (try simp only [List.map_toArray, List.map_cons, List.map_nil]); first | done | rfl | (simp only [List.length_drop, List.length_take]; rfl)) ?_; (with_reducible refine (QK.calls k _ _ l0 _ _ l1 t195 _ ?side1 ?side2 ?side3 ?side4 A3.out).mono ?_); (case side1 => repeat (first | exact HR0.out | (with_reducible refine Kd.QG ?_ _) | (with_reducible refine Kd.QH ?_ _) | (with_reducible refine Kd.QO ?_))); (case side2 => exact HC0.out); (case side3 => repeat (first | exact HR1.out | (with_reducible refine Kd.QG ?_ _) | (with_reducible refine Kd.QH ?_ _) | (with_reducible refine Kd.QO ?_))); (case side4 => exact HC1.out); rintro e w' ⟨rfl, ⟨nd, rfl⟩⟩; refine ⟨_, rfl, ?_⟩))
 go_ret
 exact ⟨by first | rfl | (simp; done) | (simp [*]; done), by repeat (first | exact Drawn0.refl _ | apply Drawn0.step)⟩

/-! ### QB: function 6 -/
def QB.j0 : Nat → List Int → List (S42) → Bool → List Int → List (S158) → List (S58) → Option (Bool)
 | 0, _, _, _, _, _, _ => none
 | k + 1, x1, x2, x19, x197000, x197001, x197002 => if x19 = true then ((Q6.f).bind fun t198 => (some t198)) else ((Qz.f k x197000 x197001 x197002 x1 x2).bind fun bt199 => ((Ql.f k x197000 x197001 x197002 x1 x2).bind fun bt203 => (if (bt199.2 == bt203.2) = true then ((QZ.f k bt199.1 bt203.1).bind fun t207 => (if t207 = true then ((Q6.f).bind fun t208 => (some t208)) else (some false))) else (some false))))
def QB.f (k : Nat) (l0_0 : List Int) (l0_1 : List (S158)) (l0_2 : List (S58)) (l1 : List Int) (l2 : List (S42)) : Option (Bool) := (QC.f k l0_0 l0_1 l0_2 l2).bind fun t197 => (if t197 = true then (QB.j0 k l1 l2 (decide ((l1.length : Int) > 60)) l0_0 l0_1 l0_2) else (QB.j0 k l1 l2 true l0_0 l0_1 l0_2))
theorem QB.mono_l : ∀ k, (∀ y0 y1 y2 y3 y4 y5, LeO (QB.j0 k y0 y1 y2 y3 y4 y5) (QB.j0 (k + 1) y0 y1 y2 y3 y4 y5))
 | 0 => fun _ _ _ _ _ _ r h => by simp [QB.j0] at h
 | k + 1 => by
  have ih0 := QB.mono_l k
  ·intro y0 y1 y2 y3 y4 y5
   unfold QB.j0
   repeat' first
   | (with_reducible exact ih0 _ _ _ _ _ _)
   | (with_reducible exact QC.mono _ _ _ _ _)
   | (with_reducible exact QZ.mono _ _ _)
   | (with_reducible exact Ql.mono _ _ _ _ _ _)
   | (with_reducible exact Qz.mono _ _ _ _ _ _)
   | (with_reducible exact LeO.refl _)
   | (with_reducible exact LeO.none _)
   | (with_reducible refine LeO.ite ?_ ?_)
   | (with_reducible refine LeO.bind ?_ (fun _ => ?_))
   | exact ih0 _ _ _ _ _ _
   | exact QC.mono _ _ _ _ _
   | exact QZ.mono _ _ _
   | exact Ql.mono _ _ _ _ _ _
   | exact Qz.mono _ _ _ _ _ _
   | exact LeO.none _
   | refine LeO.ite ?_ ?_
   | refine LeO.bind ?_ (fun _ => ?_)
theorem QB.mono : ∀ a0 a1 a2 a3 a4 k, LeO (QB.f k a0 a1 a2 a3 a4) (QB.f (k + 1) a0 a1 a2 a3 a4) := by
 intro a0 a1 a2 a3 a4 k
 have ih0 := QB.mono_l k
 unfold QB.f
 repeat' first
   | (with_reducible exact ih0 _ _ _ _ _ _)
   | (with_reducible exact QC.mono _ _ _ _ _)
   | (with_reducible exact QZ.mono _ _ _)
   | (with_reducible exact Ql.mono _ _ _ _ _ _)
   | (with_reducible exact Qz.mono _ _ _ _ _ _)
   | (with_reducible exact LeO.refl _)
   | (with_reducible exact LeO.none _)
   | (with_reducible refine LeO.ite ?_ ?_)
   | (with_reducible refine LeO.bind ?_ (fun _ => ?_))
   | exact ih0 _ _ _ _ _ _
   | exact QC.mono _ _ _ _ _
   | exact QZ.mono _ _ _
   | exact Ql.mono _ _ _ _ _ _
   | exact Qz.mono _ _ _ _ _ _
   | exact LeO.none _
   | refine LeO.ite ?_ ?_
   | refine LeO.bind ?_ (fun _ => ?_)
set_option maxHeartbeats 8000000 in
set_option maxRecDepth 100000 in
theorem QB.calls (k : Nat) (A0_0 : Option Addr) (c0_0 : Nat) (l0_0 : List Int) (A0_1 : Option Addr) (c0_1 : Nat) (l0_1 : List (S158)) (A0_2 : Option Addr) (c0_2 : Nat) (l0_2 : List (S58)) (A1 : Option Addr) (c1 : Nat) (l1 : List Int) (A2 : Option Addr) (c2 : Nat) (l2 : List (S42)) (r : Bool) (w : World) (hr0_0 : Kd.C (Kd.int .i64) w A0_0 l0_0.length l0_0) (hc0_0 : l0_0.length ≤ c0_0) (hr0_1 : Kd.C k158 w A0_1 l0_1.length l0_1) (hc0_1 : l0_1.length ≤ c0_1) (hr0_2 : Kd.C k58 w A0_2 l0_2.length l0_2) (hc0_2 : l0_2.length ≤ c0_2) (hr1 : Kd.C (Kd.int .i64) w A1 l1.length l1) (hc1 : l1.length ≤ c1) (hr2 : Kd.C k42 w A2 l2.length l2) (hc2 : l2.length ≤ c2) (h : QB.f k l0_0 l0_1 l0_2 l1 l2 = some r) :
  Calls Try.prog 6 #[.agg #[.slice A0_0 l0_0.length c0_0, .slice A0_1 l0_1.length c0_1, .slice A0_2 l0_2.length c0_2], .slice A1 l1.length c1, .slice A2 l2.length c2] w fun e w' => e = .returned (.bool r) ∧ Below w.heap.size w w' := by
 have hu37 := Try.underlying37
 have HR0_0 := Qf.mk hr0_0
 have HC0_0 := Qf.mk hc0_0
 clear hr0_0 hc0_0
 have HR0_1 := Qf.mk hr0_1
 have HC0_1 := Qf.mk hc0_1
 clear hr0_1 hc0_1
 have HR0_2 := Qf.mk hr0_2
 have HC0_2 := Qf.mk hc0_2
 clear hr0_2 hc0_2
 have HR1 := Qf.mk hr1
 have HC1 := Qf.mk hc1
 clear hr1 hc1
 have HR2 := Qf.mk hr2
 have HC2 := Qf.mk hc2
 clear hr2 hc2
 have HB := Qf.mk (Below.refl w.heap.size w)
 have H : ((QC.f k l0_0 l0_1 l0_2 l2).bind fun t197 => (if t197 = true then (QB.j0 k l1 l2 (decide ((l1.length : Int) > 60)) l0_0 l0_1 l0_2) else (QB.j0 k l1 l2 true l0_0 l0_1 l0_2))) = some r := h
 clear h
 have HC4 := Qf.mk H
 clear H
 go_enter Try.func6, Try.ntmps6
 go_upto_region 1 with (first | ((with_reducible refine QM (N := 3) rfl ?_); (try (refine Q5 (by rfl) ?_; dsimp only)); refine QI ?hg (N := 3) ?hd (cs := #[.slice A0_0 l0_0.length c0_0, .slice A0_1 l0_1.length c0_1, .slice A0_2 l0_2.length c0_2]) (t := 37) ?hr ?_; (case hd => rfl); (case hg => rfl); (case hr => first | (go_simp; done) | (go_simp; rfl)); intro gb196 hg w5 hbox hb; have n0_ := Qf.mk (Qo (by repeat (first | (with_reducible first | exact HB.out | apply Qi | apply Qa | apply Qj) | exact HB.out)) hb); have n1_ := Qf.mk (hbox); have n2_ := Qf.mk ((by rw [hg]; exact (Qp (by repeat (first | (with_reducible first | exact HB.out | apply Qi | apply Qa | apply Qj) | exact HB.out))) : w.heap.size ≤ gb196)); have n3_ := Qf.mk ((by rw [hg]; exact (Qp (by repeat (first | (with_reducible first | exact HB.out | apply Qi | apply Qa | apply Qj) | exact HB.out))) : w.heap.size ≤ gb196)); clear HB; have HB := n0_; have BK196 := n1_; have GW196 := n2_; have GE196 := n3_; clear n0_ n1_ n2_ n3_; clear hb hbox hg))
 (try simp only [Act.put, List.setIfInBounds_toArray, List.set_cons_zero, List.set_cons_succ])
 go_cut [19] (fun v19 wc => ∃ (kq : Nat) (x19_3 : Bool), v19 = .bool x19_3 ∧ Qf (QB.j0 kq l1 l2 x19_3 l0_0 l0_1 l0_2 = some r) ∧ Qf (kq ≤ k) ∧ Qf (wc.heap[gb196]? = some (.cells #[(.slice A0_0 l0_0.length c0_0), (.slice A0_1 l0_1.length c0_1), (.slice A0_2 l0_2.length c0_2)] 37 (0, 0))) ∧ Qf (Below w.heap.size w wc))
 case first =>
  have H := HC4.out
  clear HC4
  replace H := Option.bind_eq_some_iff.mp H
  obtain ⟨t197, A60, H⟩ := H
  replace H : (if t197 = true then (QB.j0 k l1 l2 (decide ((l1.length : Int) > 60)) l0_0 l0_1 l0_2) else (QB.j0 k l1 l2 true l0_0 l0_1 l0_2)) = some r := H
  have A6 := Qf.mk A60
  clear A60
  by_cases c7 : t197 = true
  ·subst c7
   have H1 : (QB.j0 k l1 l2 (decide ((l1.length : Int) > 60)) l0_0 l0_1 l0_2) = some r := by rw [if_pos rfl] at H; exact H
   clear H
   have H := H1
   clear H1
   have H' := Qf.mk H
   clear H
   have hcz8_0 : w5.cell? ⟨gb196, 0, none⟩ = some (.slice A0_0 l0_0.length c0_0) := (Qe BK196.out 0).trans rfl
   have hcz8_1 : w5.cell? ⟨gb196, 1, none⟩ = some (.slice A0_1 l0_1.length c0_1) := (Qe BK196.out 1).trans rfl
   have hcz8_2 : w5.cell? ⟨gb196, 2, none⟩ = some (.slice A0_2 l0_2.length c0_2) := (Qe BK196.out 2).trans rfl
   have hfz8_0 := Qc BK196.out 0
   have hfz8_1 := Qc BK196.out 1
   have hfz8_2 := Qc BK196.out 2
   go_wp2_with (first | ((with_reducible refine Q4 (f := 13) rfl ?_); refine goesL_ (some 13) rfl rfl Try.func13 (by kernel_rfl) rfl #[.agg #[.slice A0_0 l0_0.length c0_0, .slice A0_1 l0_1.length c0_1, .slice A0_2 l0_2.length c0_2], .slice A2 l2.length c2] rfl (by (try simp only [List.map_toArray, List.map_cons, List.map_nil]); first | done | rfl | (simp only [List.length_drop, List.length_take]; rfl)) ?_; (with_reducible refine (QC.calls k _ _ l0_0 _ _ l0_1 _ _ l0_2 _ _ l2 true _ ?side1 ?side2 ?side3 ?side4 ?side5 ?side6 ?side7 ?side8 A6.out).mono ?_); (case side1 => repeat (first | exact (Kd.Qr HR0_0.out HB.out) | (with_reducible refine Kd.QG ?_ _) | (with_reducible refine Kd.QH ?_ _) | (with_reducible refine Kd.QO ?_))); (case side2 => exact HC0_0.out); (case side3 => repeat (first | exact (Kd.Qr HR0_1.out HB.out) | (with_reducible refine Kd.QG ?_ _) | (with_reducible refine Kd.QH ?_ _) | (with_reducible refine Kd.QO ?_))); (case side4 => exact HC0_1.out); (case side5 => repeat (first | exact (Kd.Qr HR0_2.out HB.out) | (with_reducible refine Kd.QG ?_ _) | (with_reducible refine Kd.QH ?_ _) | (with_reducible refine Kd.QO ?_))); (case side6 => exact HC0_2.out); (case side7 => repeat (first | exact (Kd.Qr HR2.out HB.out) | (with_reducible refine Kd.QG ?_ _) | (with_reducible refine Kd.QH ?_ _) | (with_reducible refine Kd.QO ?_))); (case side8 => exact HC2.out); rintro e w9 ⟨rfl, hb⟩; refine ⟨_, rfl, ?_⟩; have n0_ := Qf.mk (QF (g := gb196) (o := .cells #[.slice A0_0 l0_0.length c0_0, .slice A0_1 l0_1.length c0_1, .slice A0_2 l0_2.length c0_2] 37 (0, 0)) (by (with_reducible repeat (first | refine Qd ?_ _ | refine Qg ?_ | refine Qb ?_ _)); exact BK196.out) hb); have n1_ := Qf.mk (Qo (by repeat (first | (with_reducible first | exact HB.out | apply Qi | apply Qa | apply Qj | refine Qk ?_ GE196.out) | exact HB.out)) hb); clear BK196; clear HB; have BK196 := n0_; have HB := n1_; clear n0_ n1_; (try clear hb); (try clear hb2); (try clear hk); (try clear hi)))
   go_meet
   case rel => exact ⟨_, (decide ((l1.length : Int) > 60)), (by first | rfl | (simp; done) | (simp [*]; done)), H', ⟨by first | omega | exact Nat.le_refl _⟩, ⟨by (with_reducible repeat (first | refine Qd ?_ _ | refine Qg ?_ | refine Qb ?_ _)); exact BK196.out⟩, ⟨by repeat (first | (with_reducible first | exact HB.out | apply Qi | apply Qa | apply Qj | refine Qk ?_ GE196.out) | exact HB.out)⟩⟩
  ·replace c7 := Bool.eq_false_iff.mpr c7
   subst c7
   have H1 : (QB.j0 k l1 l2 true l0_0 l0_1 l0_2) = some r := by rw [if_neg (show ¬ (false = true) by decide)] at H; exact H
   clear H
   have H := H1
   clear H1
   have H' := Qf.mk H
   clear H
   have hcz10_0 : w5.cell? ⟨gb196, 0, none⟩ = some (.slice A0_0 l0_0.length c0_0) := (Qe BK196.out 0).trans rfl
   have hcz10_1 : w5.cell? ⟨gb196, 1, none⟩ = some (.slice A0_1 l0_1.length c0_1) := (Qe BK196.out 1).trans rfl
   have hcz10_2 : w5.cell? ⟨gb196, 2, none⟩ = some (.slice A0_2 l0_2.length c0_2) := (Qe BK196.out 2).trans rfl
   have hfz10_0 := Qc BK196.out 0
   have hfz10_1 := Qc BK196.out 1
   have hfz10_2 := Qc BK196.out 2
   go_wp2_with (first | ((with_reducible refine Q4 (f := 13) rfl ?_); refine goesL_ (some 13) rfl rfl Try.func13 (by kernel_rfl) rfl #[.agg #[.slice A0_0 l0_0.length c0_0, .slice A0_1 l0_1.length c0_1, .slice A0_2 l0_2.length c0_2], .slice A2 l2.length c2] rfl (by (try simp only [List.map_toArray, List.map_cons, List.map_nil]); first | done | rfl | (simp only [List.length_drop, List.length_take]; rfl)) ?_; (with_reducible refine (QC.calls k _ _ l0_0 _ _ l0_1 _ _ l0_2 _ _ l2 false _ ?side1 ?side2 ?side3 ?side4 ?side5 ?side6 ?side7 ?side8 A6.out).mono ?_); (case side1 => repeat (first | exact (Kd.Qr HR0_0.out HB.out) | (with_reducible refine Kd.QG ?_ _) | (with_reducible refine Kd.QH ?_ _) | (with_reducible refine Kd.QO ?_))); (case side2 => exact HC0_0.out); (case side3 => repeat (first | exact (Kd.Qr HR0_1.out HB.out) | (with_reducible refine Kd.QG ?_ _) | (with_reducible refine Kd.QH ?_ _) | (with_reducible refine Kd.QO ?_))); (case side4 => exact HC0_1.out); (case side5 => repeat (first | exact (Kd.Qr HR0_2.out HB.out) | (with_reducible refine Kd.QG ?_ _) | (with_reducible refine Kd.QH ?_ _) | (with_reducible refine Kd.QO ?_))); (case side6 => exact HC0_2.out); (case side7 => repeat (first | exact (Kd.Qr HR2.out HB.out) | (with_reducible refine Kd.QG ?_ _) | (with_reducible refine Kd.QH ?_ _) | (with_reducible refine Kd.QO ?_))); (case side8 => exact HC2.out); rintro e w11 ⟨rfl, hb⟩; refine ⟨_, rfl, ?_⟩; have n0_ := Qf.mk (QF (g := gb196) (o := .cells #[.slice A0_0 l0_0.length c0_0, .slice A0_1 l0_1.length c0_1, .slice A0_2 l0_2.length c0_2] 37 (0, 0)) (by (with_reducible repeat (first | refine Qd ?_ _ | refine Qg ?_ | refine Qb ?_ _)); exact BK196.out) hb); have n1_ := Qf.mk (Qo (by repeat (first | (with_reducible first | exact HB.out | apply Qi | apply Qa | apply Qj | refine Qk ?_ GE196.out) | exact HB.out)) hb); clear BK196; clear HB; have BK196 := n0_; have HB := n1_; clear n0_ n1_; (try clear hb); (try clear hb2); (try clear hk); (try clear hi)))
   go_meet
   case rel => exact ⟨_, (true), (by first | rfl | (simp; done) | (simp [*]; done)), H', ⟨by first | omega | exact Nat.le_refl _⟩, ⟨by (with_reducible repeat (first | refine Qd ?_ _ | refine Qg ?_ | refine Qb ?_ _)); exact BK196.out⟩, ⟨by repeat (first | (with_reducible first | exact HB.out | apply Qi | apply Qa | apply Qj | refine Qk ?_ GE196.out) | exact HB.out)⟩⟩
 case rest =>
  clear HC4
  try clear c1
  try clear c2
  try clear p2
  try clear c6
  try clear c7
  try clear hcz10_0
  try clear hcz10_1
  try clear hcz10_2
  try clear hcz8_0
  try clear hcz8_1
  try clear hcz8_2
  try clear hfz10_0
  try clear hfz10_1
  try clear hfz10_2
  try clear hfz8_0
  try clear hfz8_1
  try clear hfz8_2
  obtain ⟨kq, x19_3, rfl, HA, HJ3, BK196, HB⟩ := hcut
  cases kq with
  | zero => exact absurd HA.out (by simp [QB.j0])
  | succ kj3 =>
   have H := HA.out
   clear HA
   simp only [QB.j0] at H
   by_cases c12 : x19_3 = true
   ·subst c12
    have H1 : ((Q6.f).bind fun t198 => (some t198)) = some r := by rw [if_pos rfl] at H; exact H
    clear H
    have H := H1
    clear H1
    replace H := Option.bind_eq_some_iff.mp H
    obtain ⟨t198, A130, H⟩ := H
    replace H : (some t198) = some r := H
    have A13 := Qf.mk A130
    clear A130
    obtain rfl := Option.some.inj H
    go_wp2_with (first | ((with_reducible refine Q4 (f := 9) rfl ?_); refine goesL_ (some 20) rfl rfl Try.func9 (by kernel_rfl) rfl #[] rfl (by (try simp only [List.map_toArray, List.map_cons, List.map_nil]); first | done | rfl | (simp only [List.length_drop, List.length_take]; rfl)) ?_; (with_reducible refine (Q6.calls  t198 _ A13.out).mono ?_); rintro e w14 ⟨rfl, hb⟩; refine ⟨_, rfl, ?_⟩; have n0_ := Qf.mk (QF (g := gb196) (o := .cells #[.slice A0_0 l0_0.length c0_0, .slice A0_1 l0_1.length c0_1, .slice A0_2 l0_2.length c0_2] 37 (0, 0)) (by (with_reducible repeat (first | refine Qd ?_ _ | refine Qg ?_ | refine Qb ?_ _)); exact BK196.out) hb); have n1_ := Qf.mk (Qo (by repeat (first | (with_reducible first | exact HB.out | apply Qi | apply Qa | apply Qj | refine Qk ?_ GE196.out) | exact HB.out)) hb); clear BK196; clear HB; have BK196 := n0_; have HB := n1_; clear n0_ n1_; (try clear hb); (try clear hb2); (try clear hk); (try clear hi)))
    go_ret
    exact ⟨by first | rfl | (simp [Qw, Qx] <;> rfl) | (simp [*, Qw, Qx] <;> rfl), by repeat (first | (with_reducible first | exact HB.out | apply Qi | apply Qa | apply Qj | refine Qk ?_ GE196.out) | exact HB.out)⟩
   ·replace c12 := Bool.eq_false_iff.mpr c12
    subst c12
    have H1 : ((Qz.f kj3 l0_0 l0_1 l0_2 l1 l2).bind fun bt199 => ((Ql.f kj3 l0_0 l0_1 l0_2 l1 l2).bind fun bt203 => (if (bt199.2 == bt203.2) = true then ((QZ.f kj3 bt199.1 bt203.1).bind fun t207 => (if t207 = true then ((Q6.f).bind fun t208 => (some t208)) else (some false))) else (some false)))) = some r := by rw [if_neg (show ¬ (false = true) by decide)] at H; exact H
    clear H
    have H := H1
    clear H1
    replace H := Option.bind_eq_some_iff.mp H
    obtain ⟨⟨t199, t202⟩, A150, H⟩ := H
    replace H : ((Ql.f kj3 l0_0 l0_1 l0_2 l1 l2).bind fun bt203 => (if (t202 == bt203.2) = true then ((QZ.f kj3 t199 bt203.1).bind fun t207 => (if t207 = true then ((Q6.f).bind fun t208 => (some t208)) else (some false))) else (some false))) = some r := H
    have A15 := Qf.mk A150
    clear A150
    replace H := Option.bind_eq_some_iff.mp H
    obtain ⟨⟨t203, t206⟩, A160, H⟩ := H
    replace H : (if (t202 == t206) = true then ((QZ.f kj3 t199 t203).bind fun t207 => (if t207 = true then ((Q6.f).bind fun t208 => (some t208)) else (some false))) else (some false)) = some r := H
    have A16 := Qf.mk A160
    clear A160
    by_cases c17 : (t202 == t206) = true
    ·rw [if_pos c17] at H
     have c17b0 : (t202 == t206) = true := c17
     (try (have c17b1 : decide (t202 = t206) = true := by simpa using c17))
     (try (have c17b2 : (t202 == t206) = true := by simpa using c17))
     clear c17
     replace H := Option.bind_eq_some_iff.mp H
     obtain ⟨t207, A180, H⟩ := H
     replace H : (if t207 = true then ((Q6.f).bind fun t208 => (some t208)) else (some false)) = some r := H
     have A18 := Qf.mk A180
     clear A180
     by_cases c19 : t207 = true
     ·subst c19
      have H1 : ((Q6.f).bind fun t208 => (some t208)) = some r := by rw [if_pos rfl] at H; exact H
      clear H
      have H := H1
      clear H1
      replace H := Option.bind_eq_some_iff.mp H
      obtain ⟨t208, A200, H⟩ := H
      replace H : (some t208) = some r := H
      have A20 := Qf.mk A200
      clear A200
      obtain rfl := Option.some.inj H
      have hcz21_0 : wc.cell? ⟨gb196, 0, none⟩ = some (.slice A0_0 l0_0.length c0_0) := (Qe BK196.out 0).trans rfl
      have hcz21_1 : wc.cell? ⟨gb196, 1, none⟩ = some (.slice A0_1 l0_1.length c0_1) := (Qe BK196.out 1).trans rfl
      have hcz21_2 : wc.cell? ⟨gb196, 2, none⟩ = some (.slice A0_2 l0_2.length c0_2) := (Qe BK196.out 2).trans rfl
      have hfz21_0 := Qc BK196.out 0
      have hfz21_1 := Qc BK196.out 1
      have hfz21_2 := Qc BK196.out 2
      go_wp2_with (first | ((with_reducible refine Q4 (f := 25) rfl ?_); refine goesL_ (some 25) rfl rfl Try.func25 (by kernel_rfl) rfl #[.agg #[.slice A0_0 l0_0.length c0_0, .slice A0_1 l0_1.length c0_1, .slice A0_2 l0_2.length c0_2], .slice A1 l1.length c1, .slice A2 l2.length c2] rfl (by (try simp only [List.map_toArray, List.map_cons, List.map_nil]); first | done | rfl | (simp only [List.length_drop, List.length_take]; rfl)) ?_; (with_reducible refine (Qz.calls kj3 _ _ l0_0 _ _ l0_1 _ _ l0_2 _ _ l1 _ _ l2 t199 t202 _ ?side1 ?side2 ?side3 ?side4 ?side5 ?side6 ?side7 ?side8 ?side9 ?side10 A15.out).mono ?_); (case side1 => repeat (first | exact (Kd.Qr HR0_0.out HB.out) | (with_reducible refine Kd.QG ?_ _) | (with_reducible refine Kd.QH ?_ _) | (with_reducible refine Kd.QO ?_))); (case side2 => exact HC0_0.out); (case side3 => repeat (first | exact (Kd.Qr HR0_1.out HB.out) | (with_reducible refine Kd.QG ?_ _) | (with_reducible refine Kd.QH ?_ _) | (with_reducible refine Kd.QO ?_))); (case side4 => exact HC0_1.out); (case side5 => repeat (first | exact (Kd.Qr HR0_2.out HB.out) | (with_reducible refine Kd.QG ?_ _) | (with_reducible refine Kd.QH ?_ _) | (with_reducible refine Kd.QO ?_))); (case side6 => exact HC0_2.out); (case side7 => repeat (first | exact (Kd.Qr HR1.out HB.out) | (with_reducible refine Kd.QG ?_ _) | (with_reducible refine Kd.QH ?_ _) | (with_reducible refine Kd.QO ?_))); (case side8 => exact HC1.out); (case side9 => repeat (first | exact (Kd.Qr HR2.out HB.out) | (with_reducible refine Kd.QG ?_ _) | (with_reducible refine Kd.QH ?_ _) | (with_reducible refine Kd.QO ?_))); (case side10 => exact HC2.out); rintro e w22 ⟨v200, rfl, ho0, hb⟩; refine ⟨_, rfl, ?_⟩; have n0_ := Qf.mk (Kd.R_lower ho0 (Qp (by repeat (first | (with_reducible first | exact HB.out | apply Qi | apply Qa | apply Qj | refine Qk ?_ GE196.out) | exact HB.out)))); have n1_ := Qf.mk (QF (g := gb196) (o := .cells #[.slice A0_0 l0_0.length c0_0, .slice A0_1 l0_1.length c0_1, .slice A0_2 l0_2.length c0_2] 37 (0, 0)) (by (with_reducible repeat (first | refine Qd ?_ _ | refine Qg ?_ | refine Qb ?_ _)); exact BK196.out) hb); have n2_ := Qf.mk (Qo (by repeat (first | (with_reducible first | exact HB.out | apply Qi | apply Qa | apply Qj | refine Qk ?_ GE196.out) | exact HB.out)) hb); clear BK196; clear HB; have HO201 := n0_; have BK196 := n1_; have HB := n2_; clear n0_ n1_ n2_; (try clear hb); (try clear hb2); (try clear hk); (try clear hi); (try clear ho0); have hcz23_0 : w22.cell? ⟨gb196, 0, none⟩ = some (.slice A0_0 l0_0.length c0_0) := (Qe BK196.out 0).trans rfl; have hcz23_1 : w22.cell? ⟨gb196, 1, none⟩ = some (.slice A0_1 l0_1.length c0_1) := (Qe BK196.out 1).trans rfl; have hcz23_2 : w22.cell? ⟨gb196, 2, none⟩ = some (.slice A0_2 l0_2.length c0_2) := (Qe BK196.out 2).trans rfl; have hfz23_0 := Qc BK196.out 0; have hfz23_1 := Qc BK196.out 1; have hfz23_2 := Qc BK196.out 2) | ((with_reducible refine Q4 (f := 26) rfl ?_); refine goesL_ (some 32) rfl rfl Try.func26 (by kernel_rfl) rfl #[.agg #[.slice A0_0 l0_0.length c0_0, .slice A0_1 l0_1.length c0_1, .slice A0_2 l0_2.length c0_2], .slice A1 l1.length c1, .slice A2 l2.length c2] rfl (by (try simp only [List.map_toArray, List.map_cons, List.map_nil]); first | done | rfl | (simp only [List.length_drop, List.length_take]; rfl)) ?_; (with_reducible refine (Ql.calls kj3 _ _ l0_0 _ _ l0_1 _ _ l0_2 _ _ l1 _ _ l2 t203 t206 _ ?side1 ?side2 ?side3 ?side4 ?side5 ?side6 ?side7 ?side8 ?side9 ?side10 A16.out).mono ?_); (case side1 => repeat (first | exact (Kd.Qr HR0_0.out HB.out) | (with_reducible refine Kd.QG ?_ _) | (with_reducible refine Kd.QH ?_ _) | (with_reducible refine Kd.QO ?_))); (case side2 => exact HC0_0.out); (case side3 => repeat (first | exact (Kd.Qr HR0_1.out HB.out) | (with_reducible refine Kd.QG ?_ _) | (with_reducible refine Kd.QH ?_ _) | (with_reducible refine Kd.QO ?_))); (case side4 => exact HC0_1.out); (case side5 => repeat (first | exact (Kd.Qr HR0_2.out HB.out) | (with_reducible refine Kd.QG ?_ _) | (with_reducible refine Kd.QH ?_ _) | (with_reducible refine Kd.QO ?_))); (case side6 => exact HC0_2.out); (case side7 => repeat (first | exact (Kd.Qr HR1.out HB.out) | (with_reducible refine Kd.QG ?_ _) | (with_reducible refine Kd.QH ?_ _) | (with_reducible refine Kd.QO ?_))); (case side8 => exact HC1.out); (case side9 => repeat (first | exact (Kd.Qr HR2.out HB.out) | (with_reducible refine Kd.QG ?_ _) | (with_reducible refine Kd.QH ?_ _) | (with_reducible refine Kd.QO ?_))); (case side10 => exact HC2.out); rintro e w24 ⟨v204, rfl, ho0, hb⟩; refine ⟨_, rfl, ?_⟩; have n0_ := Qf.mk (Kd.R_elder' (by (with_reducible repeat (first | apply Kd.QP | apply Kd.QQ | apply Kd.QT)); exact HO201.out) (Kd.R_base ho0) hb); have n1_ := Qf.mk (Kd.R_lower (Kd.R_new' ho0 (Kd.R_lt (by (with_reducible repeat (first | apply Kd.QP | apply Kd.QQ | apply Kd.QT)); exact HO201.out))) (Qp (by repeat (first | (with_reducible first | exact HB.out | apply Qi | apply Qa | apply Qj | refine Qk ?_ GE196.out) | exact HB.out)))); have n2_ := Qf.mk (QF (g := gb196) (o := .cells #[.slice A0_0 l0_0.length c0_0, .slice A0_1 l0_1.length c0_1, .slice A0_2 l0_2.length c0_2] 37 (0, 0)) (by (with_reducible repeat (first | refine Qd ?_ _ | refine Qg ?_ | refine Qb ?_ _)); exact BK196.out) hb); have n3_ := Qf.mk (Qo (by repeat (first | (with_reducible first | exact HB.out | apply Qi | apply Qa | apply Qj | refine Qk ?_ GE196.out) | exact HB.out)) hb); clear HO201; clear BK196; clear HB; have HO201 := n0_; have HO205 := n1_; have BK196 := n2_; have HB := n3_; clear n0_ n1_ n2_ n3_; (try clear hb); (try clear hb2); (try clear hk); (try clear hi); (try clear ho0); obtain ⟨Ao25, co25, eo25⟩ := Kd.R_slice HO201.out; subst eo25; obtain ⟨Ao26, co26, eo26⟩ := Kd.R_slice HO205.out; subst eo26) | (go_at_call 27; (with_reducible refine (QZ.calls kj3 _ _ t199 _ _ t203 true _ ?side1 ?side2 ?side3 ?side4 A18.out).mono ?_); (case side1 => repeat (first | exact (Kd.R_reads' HO201.out).2.2 | (with_reducible refine Kd.QG ?_ _) | (with_reducible refine Kd.QH ?_ _) | (with_reducible refine Kd.QO ?_))); (case side2 => exact (Kd.R_reads' HO201.out).2.1); (case side3 => repeat (first | exact (Kd.R_reads' HO205.out).2.2 | (with_reducible refine Kd.QG ?_ _) | (with_reducible refine Kd.QH ?_ _) | (with_reducible refine Kd.QO ?_))); (case side4 => exact (Kd.R_reads' HO205.out).2.1); rintro e w' ⟨rfl, ⟨nd, rfl⟩⟩) | (go_at_call 9; (with_reducible refine (Q6.calls  t208 _ A20.out).mono ?_); rintro e w27 ⟨rfl, hb⟩; have n0_ := Qf.mk (Kd.R_below (by (with_reducible repeat (first | apply Kd.QP | apply Kd.QQ | apply Kd.QT)); exact HO201.out) hb); have n1_ := Qf.mk (Kd.R_below (by (with_reducible repeat (first | apply Kd.QP | apply Kd.QQ | apply Kd.QT)); exact HO205.out) hb); have n2_ := Qf.mk (QF (g := gb196) (o := .cells #[.slice A0_0 l0_0.length c0_0, .slice A0_1 l0_1.length c0_1, .slice A0_2 l0_2.length c0_2] 37 (0, 0)) (by (with_reducible repeat (first | refine Qd ?_ _ | refine Qg ?_ | refine Qb ?_ _)); exact BK196.out) hb); have n3_ := Qf.mk (Qo (by repeat (first | (with_reducible first | exact HB.out | apply Qi | apply Qa | apply Qj | refine Qk ?_ GE196.out) | exact HB.out)) hb); clear HO201; clear HO205; clear BK196; clear HB; have HO201 := n0_; have HO205 := n1_; have BK196 := n2_; have HB := n3_; clear n0_ n1_ n2_ n3_; (try clear hb); (try clear hb2); (try clear hk); (try clear hi)))
      go_ret
      exact ⟨by first | rfl | (simp [Qw, Qx] <;> rfl) | (simp [*, Qw, Qx] <;> rfl), by repeat (first | (with_reducible first | exact HB.out | apply Qi | apply Qa | apply Qj | refine Qk ?_ GE196.out) | exact HB.out)⟩
     ·replace c19 := Bool.eq_false_iff.mpr c19
      subst c19
      have H1 : (some false) = some r := by rw [if_neg (show ¬ (false = true) by decide)] at H; exact H
      clear H
      have H := H1
      clear H1
      obtain rfl := Option.some.inj H
      have hcz28_0 : wc.cell? ⟨gb196, 0, none⟩ = some (.slice A0_0 l0_0.length c0_0) := (Qe BK196.out 0).trans rfl
      have hcz28_1 : wc.cell? ⟨gb196, 1, none⟩ = some (.slice A0_1 l0_1.length c0_1) := (Qe BK196.out 1).trans rfl
      have hcz28_2 : wc.cell? ⟨gb196, 2, none⟩ = some (.slice A0_2 l0_2.length c0_2) := (Qe BK196.out 2).trans rfl
      have hfz28_0 := Qc BK196.out 0
      have hfz28_1 := Qc BK196.out 1
      have hfz28_2 := Qc BK196.out 2
      go_wp2_with (first | ((with_reducible refine Q4 (f := 25) rfl ?_); refine goesL_ (some 25) rfl rfl Try.func25 (by kernel_rfl) rfl #[.agg #[.slice A0_0 l0_0.length c0_0, .slice A0_1 l0_1.length c0_1, .slice A0_2 l0_2.length c0_2], .slice A1 l1.length c1, .slice A2 l2.length c2] rfl (by (try simp only [List.map_toArray, List.map_cons, List.map_nil]); first | done | rfl | (simp only [List.length_drop, List.length_take]; rfl)) ?_; (with_reducible refine (Qz.calls kj3 _ _ l0_0 _ _ l0_1 _ _ l0_2 _ _ l1 _ _ l2 t199 t202 _ ?side1 ?side2 ?side3 ?side4 ?side5 ?side6 ?side7 ?side8 ?side9 ?side10 A15.out).mono ?_); (case side1 => repeat (first | exact (Kd.Qr HR0_0.out HB.out) | (with_reducible refine Kd.QG ?_ _) | (with_reducible refine Kd.QH ?_ _) | (with_reducible refine Kd.QO ?_))); (case side2 => exact HC0_0.out); (case side3 => repeat (first | exact (Kd.Qr HR0_1.out HB.out) | (with_reducible refine Kd.QG ?_ _) | (with_reducible refine Kd.QH ?_ _) | (with_reducible refine Kd.QO ?_))); (case side4 => exact HC0_1.out); (case side5 => repeat (first | exact (Kd.Qr HR0_2.out HB.out) | (with_reducible refine Kd.QG ?_ _) | (with_reducible refine Kd.QH ?_ _) | (with_reducible refine Kd.QO ?_))); (case side6 => exact HC0_2.out); (case side7 => repeat (first | exact (Kd.Qr HR1.out HB.out) | (with_reducible refine Kd.QG ?_ _) | (with_reducible refine Kd.QH ?_ _) | (with_reducible refine Kd.QO ?_))); (case side8 => exact HC1.out); (case side9 => repeat (first | exact (Kd.Qr HR2.out HB.out) | (with_reducible refine Kd.QG ?_ _) | (with_reducible refine Kd.QH ?_ _) | (with_reducible refine Kd.QO ?_))); (case side10 => exact HC2.out); rintro e w29 ⟨v200, rfl, ho0, hb⟩; refine ⟨_, rfl, ?_⟩; have n0_ := Qf.mk (Kd.R_lower ho0 (Qp (by repeat (first | (with_reducible first | exact HB.out | apply Qi | apply Qa | apply Qj | refine Qk ?_ GE196.out) | exact HB.out)))); have n1_ := Qf.mk (QF (g := gb196) (o := .cells #[.slice A0_0 l0_0.length c0_0, .slice A0_1 l0_1.length c0_1, .slice A0_2 l0_2.length c0_2] 37 (0, 0)) (by (with_reducible repeat (first | refine Qd ?_ _ | refine Qg ?_ | refine Qb ?_ _)); exact BK196.out) hb); have n2_ := Qf.mk (Qo (by repeat (first | (with_reducible first | exact HB.out | apply Qi | apply Qa | apply Qj | refine Qk ?_ GE196.out) | exact HB.out)) hb); clear BK196; clear HB; have HO201 := n0_; have BK196 := n1_; have HB := n2_; clear n0_ n1_ n2_; (try clear hb); (try clear hb2); (try clear hk); (try clear hi); (try clear ho0); have hcz30_0 : w29.cell? ⟨gb196, 0, none⟩ = some (.slice A0_0 l0_0.length c0_0) := (Qe BK196.out 0).trans rfl; have hcz30_1 : w29.cell? ⟨gb196, 1, none⟩ = some (.slice A0_1 l0_1.length c0_1) := (Qe BK196.out 1).trans rfl; have hcz30_2 : w29.cell? ⟨gb196, 2, none⟩ = some (.slice A0_2 l0_2.length c0_2) := (Qe BK196.out 2).trans rfl; have hfz30_0 := Qc BK196.out 0; have hfz30_1 := Qc BK196.out 1; have hfz30_2 := Qc BK196.out 2) | ((with_reducible refine Q4 (f := 26) rfl ?_); refine goesL_ (some 32) rfl rfl Try.func26 (by kernel_rfl) rfl #[.agg #[.slice A0_0 l0_0.length c0_0, .slice A0_1 l0_1.length c0_1, .slice A0_2 l0_2.length c0_2], .slice A1 l1.length c1, .slice A2 l2.length c2] rfl (by (try simp only [List.map_toArray, List.map_cons, List.map_nil]); first | done | rfl | (simp only [List.length_drop, List.length_take]; rfl)) ?_; (with_reducible refine (Ql.calls kj3 _ _ l0_0 _ _ l0_1 _ _ l0_2 _ _ l1 _ _ l2 t203 t206 _ ?side1 ?side2 ?side3 ?side4 ?side5 ?side6 ?side7 ?side8 ?side9 ?side10 A16.out).mono ?_); (case side1 => repeat (first | exact (Kd.Qr HR0_0.out HB.out) | (with_reducible refine Kd.QG ?_ _) | (with_reducible refine Kd.QH ?_ _) | (with_reducible refine Kd.QO ?_))); (case side2 => exact HC0_0.out); (case side3 => repeat (first | exact (Kd.Qr HR0_1.out HB.out) | (with_reducible refine Kd.QG ?_ _) | (with_reducible refine Kd.QH ?_ _) | (with_reducible refine Kd.QO ?_))); (case side4 => exact HC0_1.out); (case side5 => repeat (first | exact (Kd.Qr HR0_2.out HB.out) | (with_reducible refine Kd.QG ?_ _) | (with_reducible refine Kd.QH ?_ _) | (with_reducible refine Kd.QO ?_))); (case side6 => exact HC0_2.out); (case side7 => repeat (first | exact (Kd.Qr HR1.out HB.out) | (with_reducible refine Kd.QG ?_ _) | (with_reducible refine Kd.QH ?_ _) | (with_reducible refine Kd.QO ?_))); (case side8 => exact HC1.out); (case side9 => repeat (first | exact (Kd.Qr HR2.out HB.out) | (with_reducible refine Kd.QG ?_ _) | (with_reducible refine Kd.QH ?_ _) | (with_reducible refine Kd.QO ?_))); (case side10 => exact HC2.out); rintro e w31 ⟨v204, rfl, ho0, hb⟩; refine ⟨_, rfl, ?_⟩; have n0_ := Qf.mk (Kd.R_elder' (by (with_reducible repeat (first | apply Kd.QP | apply Kd.QQ | apply Kd.QT)); exact HO201.out) (Kd.R_base ho0) hb); have n1_ := Qf.mk (Kd.R_lower (Kd.R_new' ho0 (Kd.R_lt (by (with_reducible repeat (first | apply Kd.QP | apply Kd.QQ | apply Kd.QT)); exact HO201.out))) (Qp (by repeat (first | (with_reducible first | exact HB.out | apply Qi | apply Qa | apply Qj | refine Qk ?_ GE196.out) | exact HB.out)))); have n2_ := Qf.mk (QF (g := gb196) (o := .cells #[.slice A0_0 l0_0.length c0_0, .slice A0_1 l0_1.length c0_1, .slice A0_2 l0_2.length c0_2] 37 (0, 0)) (by (with_reducible repeat (first | refine Qd ?_ _ | refine Qg ?_ | refine Qb ?_ _)); exact BK196.out) hb); have n3_ := Qf.mk (Qo (by repeat (first | (with_reducible first | exact HB.out | apply Qi | apply Qa | apply Qj | refine Qk ?_ GE196.out) | exact HB.out)) hb); clear HO201; clear BK196; clear HB; have HO201 := n0_; have HO205 := n1_; have BK196 := n2_; have HB := n3_; clear n0_ n1_ n2_ n3_; (try clear hb); (try clear hb2); (try clear hk); (try clear hi); (try clear ho0); obtain ⟨Ao32, co32, eo32⟩ := Kd.R_slice HO201.out; subst eo32; obtain ⟨Ao33, co33, eo33⟩ := Kd.R_slice HO205.out; subst eo33) | (go_at_call 27; (with_reducible refine (QZ.calls kj3 _ _ t199 _ _ t203 false _ ?side1 ?side2 ?side3 ?side4 A18.out).mono ?_); (case side1 => repeat (first | exact (Kd.R_reads' HO201.out).2.2 | (with_reducible refine Kd.QG ?_ _) | (with_reducible refine Kd.QH ?_ _) | (with_reducible refine Kd.QO ?_))); (case side2 => exact (Kd.R_reads' HO201.out).2.1); (case side3 => repeat (first | exact (Kd.R_reads' HO205.out).2.2 | (with_reducible refine Kd.QG ?_ _) | (with_reducible refine Kd.QH ?_ _) | (with_reducible refine Kd.QO ?_))); (case side4 => exact (Kd.R_reads' HO205.out).2.1); rintro e w' ⟨rfl, ⟨nd, rfl⟩⟩))
      go_ret
      exact ⟨by first | rfl | (simp [Qw, Qx] <;> rfl) | (simp [*, Qw, Qx] <;> rfl), by repeat (first | (with_reducible first | exact HB.out | apply Qi | apply Qa | apply Qj | refine Qk ?_ GE196.out) | exact HB.out)⟩
    ·rw [if_neg c17] at H
     have c17b0 : (t202 == t206) = false := by simpa using c17
     (try (have c17b1 : decide (t202 = t206) = false := by simpa using c17))
     (try (have c17b2 : (t202 == t206) = false := by simpa using c17))
     (try (have c17b3 : ¬ (t202 = t206) := by simpa using c17))
     clear c17
     obtain rfl := Option.some.inj H
     have hcz34_0 : wc.cell? ⟨gb196, 0, none⟩ = some (.slice A0_0 l0_0.length c0_0) := (Qe BK196.out 0).trans rfl
     have hcz34_1 : wc.cell? ⟨gb196, 1, none⟩ = some (.slice A0_1 l0_1.length c0_1) := (Qe BK196.out 1).trans rfl
     have hcz34_2 : wc.cell? ⟨gb196, 2, none⟩ = some (.slice A0_2 l0_2.length c0_2) := (Qe BK196.out 2).trans rfl
     have hfz34_0 := Qc BK196.out 0
     have hfz34_1 := Qc BK196.out 1
     have hfz34_2 := Qc BK196.out 2
     go_wp2_with (first | ((with_reducible refine Q4 (f := 25) rfl ?_); refine goesL_ (some 25) rfl rfl Try.func25 (by kernel_rfl) rfl #[.agg #[.slice A0_0 l0_0.length c0_0, .slice A0_1 l0_1.length c0_1, .slice A0_2 l0_2.length c0_2], .slice A1 l1.length c1, .slice A2 l2.length c2] rfl (by (try simp only [List.map_toArray, List.map_cons, List.map_nil]); first | done | rfl | (simp only [List.length_drop, List.length_take]; rfl)) ?_; (with_reducible refine (Qz.calls kj3 _ _ l0_0 _ _ l0_1 _ _ l0_2 _ _ l1 _ _ l2 t199 t202 _ ?side1 ?side2 ?side3 ?side4 ?side5 ?side6 ?side7 ?side8 ?side9 ?side10 A15.out).mono ?_); (case side1 => repeat (first | exact (Kd.Qr HR0_0.out HB.out) | (with_reducible refine Kd.QG ?_ _) | (with_reducible refine Kd.QH ?_ _) | (with_reducible refine Kd.QO ?_))); (case side2 => exact HC0_0.out); (case side3 => repeat (first | exact (Kd.Qr HR0_1.out HB.out) | (with_reducible refine Kd.QG ?_ _) | (with_reducible refine Kd.QH ?_ _) | (with_reducible refine Kd.QO ?_))); (case side4 => exact HC0_1.out); (case side5 => repeat (first | exact (Kd.Qr HR0_2.out HB.out) | (with_reducible refine Kd.QG ?_ _) | (with_reducible refine Kd.QH ?_ _) | (with_reducible refine Kd.QO ?_))); (case side6 => exact HC0_2.out); (case side7 => repeat (first | exact (Kd.Qr HR1.out HB.out) | (with_reducible refine Kd.QG ?_ _) | (with_reducible refine Kd.QH ?_ _) | (with_reducible refine Kd.QO ?_))); (case side8 => exact HC1.out); (case side9 => repeat (first | exact (Kd.Qr HR2.out HB.out) | (with_reducible refine Kd.QG ?_ _) | (with_reducible refine Kd.QH ?_ _) | (with_reducible refine Kd.QO ?_))); (case side10 => exact HC2.out); rintro e w35 ⟨v200, rfl, ho0, hb⟩; refine ⟨_, rfl, ?_⟩; have n0_ := Qf.mk (Kd.R_lower ho0 (Qp (by repeat (first | (with_reducible first | exact HB.out | apply Qi | apply Qa | apply Qj | refine Qk ?_ GE196.out) | exact HB.out)))); have n1_ := Qf.mk (QF (g := gb196) (o := .cells #[.slice A0_0 l0_0.length c0_0, .slice A0_1 l0_1.length c0_1, .slice A0_2 l0_2.length c0_2] 37 (0, 0)) (by (with_reducible repeat (first | refine Qd ?_ _ | refine Qg ?_ | refine Qb ?_ _)); exact BK196.out) hb); have n2_ := Qf.mk (Qo (by repeat (first | (with_reducible first | exact HB.out | apply Qi | apply Qa | apply Qj | refine Qk ?_ GE196.out) | exact HB.out)) hb); clear BK196; clear HB; have HO201 := n0_; have BK196 := n1_; have HB := n2_; clear n0_ n1_ n2_; (try clear hb); (try clear hb2); (try clear hk); (try clear hi); (try clear ho0); have hcz36_0 : w35.cell? ⟨gb196, 0, none⟩ = some (.slice A0_0 l0_0.length c0_0) := (Qe BK196.out 0).trans rfl; have hcz36_1 : w35.cell? ⟨gb196, 1, none⟩ = some (.slice A0_1 l0_1.length c0_1) := (Qe BK196.out 1).trans rfl; have hcz36_2 : w35.cell? ⟨gb196, 2, none⟩ = some (.slice A0_2 l0_2.length c0_2) := (Qe BK196.out 2).trans rfl; have hfz36_0 := Qc BK196.out 0; have hfz36_1 := Qc BK196.out 1; have hfz36_2 := Qc BK196.out 2) | ((with_reducible refine Q4 (f := 26) rfl ?_); refine goesL_ (some 32) rfl rfl Try.func26 (by kernel_rfl) rfl #[.agg #[.slice A0_0 l0_0.length c0_0, .slice A0_1 l0_1.length c0_1, .slice A0_2 l0_2.length c0_2], .slice A1 l1.length c1, .slice A2 l2.length c2] rfl (by (try simp only [List.map_toArray, List.map_cons, List.map_nil]); first | done | rfl | (simp only [List.length_drop, List.length_take]; rfl)) ?_; (with_reducible refine (Ql.calls kj3 _ _ l0_0 _ _ l0_1 _ _ l0_2 _ _ l1 _ _ l2 t203 t206 _ ?side1 ?side2 ?side3 ?side4 ?side5 ?side6 ?side7 ?side8 ?side9 ?side10 A16.out).mono ?_); (case side1 => repeat (first | exact (Kd.Qr HR0_0.out HB.out) | (with_reducible refine Kd.QG ?_ _) | (with_reducible refine Kd.QH ?_ _) | (with_reducible refine Kd.QO ?_))); (case side2 => exact HC0_0.out); (case side3 => repeat (first | exact (Kd.Qr HR0_1.out HB.out) | (with_reducible refine Kd.QG ?_ _) | (with_reducible refine Kd.QH ?_ _) | (with_reducible refine Kd.QO ?_))); (case side4 => exact HC0_1.out); (case side5 => repeat (first | exact (Kd.Qr HR0_2.out HB.out) | (with_reducible refine Kd.QG ?_ _) | (with_reducible refine Kd.QH ?_ _) | (with_reducible refine Kd.QO ?_))); (case side6 => exact HC0_2.out); (case side7 => repeat (first | exact (Kd.Qr HR1.out HB.out) | (with_reducible refine Kd.QG ?_ _) | (with_reducible refine Kd.QH ?_ _) | (with_reducible refine Kd.QO ?_))); (case side8 => exact HC1.out); (case side9 => repeat (first | exact (Kd.Qr HR2.out HB.out) | (with_reducible refine Kd.QG ?_ _) | (with_reducible refine Kd.QH ?_ _) | (with_reducible refine Kd.QO ?_))); (case side10 => exact HC2.out); rintro e w37 ⟨v204, rfl, ho0, hb⟩; refine ⟨_, rfl, ?_⟩; have n0_ := Qf.mk (Kd.R_elder' (by (with_reducible repeat (first | apply Kd.QP | apply Kd.QQ | apply Kd.QT)); exact HO201.out) (Kd.R_base ho0) hb); have n1_ := Qf.mk (Kd.R_lower (Kd.R_new' ho0 (Kd.R_lt (by (with_reducible repeat (first | apply Kd.QP | apply Kd.QQ | apply Kd.QT)); exact HO201.out))) (Qp (by repeat (first | (with_reducible first | exact HB.out | apply Qi | apply Qa | apply Qj | refine Qk ?_ GE196.out) | exact HB.out)))); have n2_ := Qf.mk (QF (g := gb196) (o := .cells #[.slice A0_0 l0_0.length c0_0, .slice A0_1 l0_1.length c0_1, .slice A0_2 l0_2.length c0_2] 37 (0, 0)) (by (with_reducible repeat (first | refine Qd ?_ _ | refine Qg ?_ | refine Qb ?_ _)); exact BK196.out) hb); have n3_ := Qf.mk (Qo (by repeat (first | (with_reducible first | exact HB.out | apply Qi | apply Qa | apply Qj | refine Qk ?_ GE196.out) | exact HB.out)) hb); clear HO201; clear BK196; clear HB; have HO201 := n0_; have HO205 := n1_; have BK196 := n2_; have HB := n3_; clear n0_ n1_ n2_ n3_; (try clear hb); (try clear hb2); (try clear hk); (try clear hi); (try clear ho0)))
     go_ret
     exact ⟨by first | rfl | (simp [Qw, Qx] <;> rfl) | (simp [*, Qw, Qx] <;> rfl), by repeat (first | (with_reducible first | exact HB.out | apply Qi | apply Qa | apply Qj | refine Qk ?_ GE196.out) | exact HB.out)⟩

end Go.Proofs.Ytbkfjmpnbalkaaa.QTurnsPieces
