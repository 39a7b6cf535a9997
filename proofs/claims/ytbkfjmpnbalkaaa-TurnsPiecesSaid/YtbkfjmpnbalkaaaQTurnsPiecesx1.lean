-- Written by a program of this session (wip/ext.py) with the kit's print; Lean checks it.
import Derived.Test.YtbkfjmpnbalkaaaQTurnsPiecesx0
namespace Go.Proofs.Ytbkfjmpnbalkaaa.QTurnsPieces
open Go.RowKit Go.Proofs.YtbkfjmpnbalkaaaW.PrintWords Go.Proofs.YtbkfjmpnbalkaaaW.PrintLast Go.Proofs.YtbkfjmpnbalkaaaW.PrintMore
attribute [local go_sem] max2_int min2_int max_two min_two max_three min_three max_four min_four   -- for this text's walks alone
set_option linter.unusedVariables false
set_option linter.unusedSimpArgs false

-- NOT PRINTED: function 30 (data_Check)

-- NOT PRINTED: function 79 (api_Tag)

-- NOT PRINTED: function 72 (tags_find)

-- NOT PRINTED: function 53 (tags_Get)

/-! ### turns_begins: function 54 -/
def turns_begins.f (a0 : ByteArray) (a1 : ByteArray) : Option (Bool) := if (a0.size : Int) ≥ (a1.size : Int) then (if 0 ≤ (a1.size : Int) then (if (a1.size : Int) ≤ (a0.size : Int) then (some ((a0.extract 0 ((a1.size : Int) : Int).toNat).toList == a1.toList)) else (none)) else (none)) else (some false)
set_option maxHeartbeats 8000000 in
set_option maxRecDepth 100000 in
theorem turns_begins.calls (a0 : ByteArray) (a1 : ByteArray) (r : Bool) (w : World) (h : turns_begins.f a0 a1 = some r) :
  Calls Try.prog 54 #[.string a0, .string a1] w fun e w' => e = .returned (.bool r) ∧ Drawn0 w w' := by
 have H : (if (a0.size : Int) ≥ (a1.size : Int) then (if 0 ≤ (a1.size : Int) then (if (a1.size : Int) ≤ (a0.size : Int) then (some ((a0.extract 0 ((a1.size : Int) : Int).toNat).toList == a1.toList)) else (none)) else (none)) else (some false)) = some r := h
 clear h
 by_cases c3 : (a0.size : Int) ≥ (a1.size : Int)
 ·rw [if_pos c3] at H
  have c3b0 : decide ((a1.size : Int) ≤ (a0.size : Int)) = true := decide_eq_true c3
  have c3b1 : decide (a1.size ≤ a0.size) = true := decide_eq_true (Int.ofNat_le.mp c3)
  clear c3
  by_cases c4 : 0 ≤ (a1.size : Int)
  ·rw [if_pos c4] at H
   have c4b0 := eq_true c4
   have c4b1 : decide (0 ≤ (a1.size : Int)) = true := decide_eq_true c4
   clear c4
   by_cases c5 : (a1.size : Int) ≤ (a0.size : Int)
   ·rw [if_pos c5] at H
    have c5b0 := eq_true c5
    have c5b1 : decide ((a1.size : Int) ≤ (a0.size : Int)) = true := decide_eq_true c5
    clear c5
    obtain rfl := Option.some.inj H
    go_enter Try.func54, Try.ntmps54
    go_wp2
    go_ret
    exact ⟨by first | rfl | (simp; done) | (simp [*]; done), by repeat (first | exact Drawn0.refl _ | apply Drawn0.step)⟩
   ·rw [if_neg c5] at H
    exact absurd H (by simp)
  ·rw [if_neg c4] at H
   exact absurd H (by simp)
 ·rw [if_neg c3] at H
  have c3b0 : decide ((a1.size : Int) ≤ (a0.size : Int)) = false := decide_eq_false c3
  have c3b1 : decide (a1.size ≤ a0.size) = false := decide_eq_false (fun h => c3 (Int.ofNat_le.mpr h))
  clear c3
  obtain rfl := Option.some.inj H
  go_enter Try.func54, Try.ntmps54
  go_wp2
  go_ret
  exact ⟨by first | rfl | (simp; done) | (simp [*]; done), by repeat (first | exact Drawn0.refl _ | apply Drawn0.step)⟩

-- NOT PRINTED: function 31 (turns_turn)

/-! ### turns_Of: function 11 (a contract of our own) -/
theorem blk_at0 {W : World} {n : Nat} {o : Obj} (h : n = W.heap.size) : (W.alloc o).heap[n]? = some o := by subst h; exact blk_new W _

set_option maxHeartbeats 4000000 in
set_option maxRecDepth 100000 in
theorem none_calls47 (A0 A1 A2 : Option Addr) (c0 c1 c2 : Nat) (m1 m2 : Option Nat) (w : World) :
  Calls Try.prog 47 #[.agg #[.slice A0 0 c0, .slice A1 0 c1, .slice A2 0 c2, .map m1, .map m2]] w fun e w' => e = .returned (.int .i64 0) ∧ Below w.heap.size w w' := by
 go_enter Try.func47, Try.ntmps47
 go_wp2
 refine wp_loop_rounds 1 ?_
 rw [rounds_succ]
 go_wp2
 go_ret
 exact ⟨rfl, Qi (Below.refl _ _) _⟩

set_option maxHeartbeats 4000000 in
set_option maxRecDepth 100000 in
theorem none_calls48 (A0 A1 A2 : Option Addr) (c0 c1 c2 : Nat) (m1 m2 : Option Nat) (w : World) :
  Calls Try.prog 48 #[.agg #[.slice A0 0 c0, .slice A1 0 c1, .slice A2 0 c2, .map m1, .map m2]] w fun e w' => e = .returned (.int .i64 0) ∧ Below w.heap.size w w' := by
 go_enter Try.func48, Try.ntmps48
 go_wp2
 refine wp_loop_rounds 1 ?_
 rw [rounds_succ]
 go_wp2
 go_ret
 exact ⟨rfl, Qi (Below.refl _ _) _⟩

set_option maxHeartbeats 4000000 in
set_option maxRecDepth 100000 in
theorem none_calls49 (A0 A1 A2 : Option Addr) (c0 c1 c2 : Nat) (m1 m2 : Option Nat) (w : World) :
  Calls Try.prog 49 #[.agg #[.slice A0 0 c0, .slice A1 0 c1, .slice A2 0 c2, .map m1, .map m2]] w fun e w' => e = .returned (.int .i64 0) ∧ Below w.heap.size w w' := by
 go_enter Try.func49, Try.ntmps49
 go_wp2
 refine wp_loop_rounds 1 ?_
 rw [rounds_succ]
 go_wp2
 go_ret
 exact ⟨rfl, Qi (Below.refl _ _) _⟩

set_option maxHeartbeats 4000000 in
set_option maxRecDepth 100000 in
theorem data_none (A0 A1 A2 : Option Addr) (c0 c1 c2 : Nat) (w : World) :
  Calls Try.prog 30 #[.agg #[.slice A0 0 c0, .slice A1 0 c1, .slice A2 0 c2]] w fun e w' => e = .returned (.int .i64 0) ∧ Below w.heap.size w w' := by
 have hmm := @run_makeMap Try.prog
 go_enter Try.func30, Try.ntmps30
 go_wp2
 refine wp_loop_rounds 1 ?_
 rw [rounds_succ]
 go_wp2
 refine wp_loop_rounds 1 ?_
 rw [rounds_succ]
 go_wp2
 refine wp_loop_rounds 4 ?_
 rw [rounds_succ]
 go_wp2_with (go_at_call 47; refine (none_calls47 _ _ _ _ _ _ _ _ _).mono ?_; rintro e w1 ⟨rfl, hb1⟩; have HB1 := Qf.mk hb1; clear hb1)
 have B3a : Qf (w1.heap[w.heap.size + 1 + 1 + 1]? = some (.cells #[.slice A0 0 c0, .slice A1 0 c1, .slice A2 0 c2, .map (some (w.heap.size + 1)), .map (some (w.heap.size + 1 + 1))] 99 (0, 0))) := ⟨(HB1.out.block _ (by simp)).trans (by (with_reducible repeat (first | exact blk_at0 (by simp; done) | refine Qb ?_ _)))⟩
 have B4a : Qf (w1.heap[w.heap.size + 1 + 1 + 1 + 1]? = some (.cells #[.func (Fn.func 47) #[] #[], .func (Fn.func 48) #[] #[], .func (Fn.func 49) #[] #[]] 100 (0, 0))) := ⟨(HB1.out.block _ (by simp)).trans (by (with_reducible repeat (first | exact blk_at0 (by simp; done) | refine Qb ?_ _)))⟩
 have HW1 : Qf (Below w.heap.size w w1) := ⟨Qo (by repeat (first | exact Below.refl _ _ | apply Qi)) HB1.out⟩
 have xa0 := (Qe B3a.out 0).trans (rfl : _ = some (Value.slice A0 0 c0))
 have xa1 := (Qe B3a.out 1).trans (rfl : _ = some (Value.slice A1 0 c1))
 have xa2 := (Qe B3a.out 2).trans (rfl : _ = some (Value.slice A2 0 c2))
 have xa3 := (Qe B3a.out 3).trans (rfl : _ = some (Value.map (some (w.heap.size + 1))))
 have xa4 := (Qe B3a.out 4).trans (rfl : _ = some (Value.map (some (w.heap.size + 1 + 1))))
 have ya1 := (Qe B4a.out 1).trans (rfl : _ = some (Value.func (Fn.func 48) #[] #[]))
 have ya2 := (Qe B4a.out 2).trans (rfl : _ = some (Value.func (Fn.func 49) #[] #[]))
 rw [rounds_succ]
 go_wp2_with (go_at_call 48; refine (none_calls48 _ _ _ _ _ _ _ _ _).mono ?_; rintro e w2 ⟨rfl, hb2⟩; have HB2 := Qf.mk hb2; clear hb2)
 have B3b := Qf.mk ((HB2.out.block _ (QR B3a.out)).trans B3a.out)
 have B4b := Qf.mk ((HB2.out.block _ (QR B4a.out)).trans B4a.out)
 have HW2 := Qf.mk (Qo HW1.out HB2.out)
 clear xa0 xa1 xa2 xa3 xa4 ya1 ya2
 have xb0 := (Qe B3b.out 0).trans (rfl : _ = some (Value.slice A0 0 c0))
 have xb1 := (Qe B3b.out 1).trans (rfl : _ = some (Value.slice A1 0 c1))
 have xb2 := (Qe B3b.out 2).trans (rfl : _ = some (Value.slice A2 0 c2))
 have xb3 := (Qe B3b.out 3).trans (rfl : _ = some (Value.map (some (w.heap.size + 1))))
 have xb4 := (Qe B3b.out 4).trans (rfl : _ = some (Value.map (some (w.heap.size + 1 + 1))))
 have yb1 := (Qe B4b.out 1).trans (rfl : _ = some (Value.func (Fn.func 48) #[] #[]))
 have yb2 := (Qe B4b.out 2).trans (rfl : _ = some (Value.func (Fn.func 49) #[] #[]))
 rw [rounds_succ]
 go_wp2_with (go_at_call 49; refine (none_calls49 _ _ _ _ _ _ _ _ _).mono ?_; rintro e w3 ⟨rfl, hb3⟩; have HB3 := Qf.mk hb3; clear hb3)
 have HW3 := Qf.mk (Qo HW2.out HB3.out)
 clear xb0 xb1 xb2 xb3 xb4 yb1 yb2
 rw [rounds_succ]
 go_wp2
 go_ret
 exact ⟨rfl, HW3.out⟩
def turns_Of.f (l0_0 : List (S71)) (l0_1 : List (S73)) (l0_2 : List (S76)) : Option (List (S42)) := if l0_0.length = 0 ∧ l0_1.length = 0 ∧ l0_2.length = 0 then some [] else none
set_option maxHeartbeats 4000000 in
set_option maxRecDepth 100000 in
theorem turns_Of.calls (A0_0 : Option Addr) (c0_0 : Nat) (l0_0 : List (S71)) (A0_1 : Option Addr) (c0_1 : Nat) (l0_1 : List (S73)) (A0_2 : Option Addr) (c0_2 : Nat) (l0_2 : List (S76)) (r : List (S42)) (w : World) (hr0_0 : Kd.C k71 w A0_0 l0_0.length l0_0) (hc0_0 : l0_0.length ≤ c0_0) (hr0_1 : Kd.C k73 w A0_1 l0_1.length l0_1) (hc0_1 : l0_1.length ≤ c0_1) (hr0_2 : Kd.C k76 w A0_2 l0_2.length l0_2) (hc0_2 : l0_2.length ≤ c0_2) (h : turns_Of.f l0_0 l0_1 l0_2 = some r) :
  Calls Try.prog 11 #[.agg #[.slice A0_0 l0_0.length c0_0, .slice A0_1 l0_1.length c0_1, .slice A0_2 l0_2.length c0_2]] w fun e w' => ∃ v0_ : Value, e = .returned (v0_) ∧ Kd.R k42 42 w' w.heap.size (fun _ => True) v0_ r ∧ Below w.heap.size w w' := by
 unfold turns_Of.f at h
 split at h
 case isFalse => cases h
 rename_i hh
 obtain ⟨h0, h1, h2⟩ := hh
 obtain rfl := Option.some.inj h
 rw [h0, h1, h2]
 clear h h0 h1 h2 hr0_0 hr0_1 hr0_2 hc0_0 hc0_1 hc0_2
 have hl := Nat.lt_succ_self w.heap.size
 go_enter Try.func11, Try.ntmps11
 go_wp2_with (go_at_call 30; refine (data_none _ _ _ _ _ _ _).mono ?_; rintro e w1 ⟨rfl, hb1⟩; have HB1 := Qf.mk hb1; clear hb1; have B1 : Qf (w1.heap[w.heap.size]? = some (.cells #[.slice A0_0 0 c0_0, .slice A0_1 0 c0_1, .slice A0_2 0 c0_2] 26 (0, 0))) := ⟨(HB1.out.block _ (by simp)).trans (blk_at0 rfl)⟩; have x2 := (Qe B1.out 2).trans (rfl : _ = some (Value.slice A0_2 0 c0_2)))
 refine wp_loop_rounds 1 ?_
 rw [rounds_succ]
 go_wp2
 go_ret
 exact ⟨_, rfl, Kd.R_nil _ _ _ _ _, Qo (Qi (Below.refl _ _) _) HB1.out⟩

/-! ### QE: function 59 -/
mutual
def QE.l0 : Nat → Int → List (S120) → Int → Int → List (S120) → Int → Int → Option (Int)
 | 0, _, _, _, _, _, _, _ => none
 | k + 1, x3, x11, x12, x13, x102000, x102001, x102002 => if x13 < x12 then (if 0 ≤ x13 then (if x13 < (x11.length : Int) then (if ((QU x11 x13).f0) < 0 then (QE.j1 k x3 x11 x12 x13 true x102000 x102001 x102002 ((QU x11 x13).f0) ((QU x11 x13).f1)) else (if ((QU x11 x13).f1) ≤ ((QU x11 x13).f0) then (QE.j1 k x3 x11 x12 x13 true x102000 x102001 x102002 ((QU x11 x13).f0) ((QU x11 x13).f1)) else (QE.j1 k x3 x11 x12 x13 (decide (((QU x11 x13).f1) > 1440)) x102000 x102001 x102002 ((QU x11 x13).f0) ((QU x11 x13).f1)))) else (none)) else (none)) else (if x102002 < 0 then (some 19) else (if x102002 = 0 then (if x102001 = 0 then (if x102002 > 0 then (if x102001 < 0 then (some 19) else (if x102001 ≥ 1440 then (some 19) else (some 0))) else (some 0)) else (some 19)) else (if x102002 > 0 then (if x102001 < 0 then (some 19) else (if x102001 ≥ 1440 then (some 19) else (some 0))) else (some 0))))
def QE.j1 : Nat → Int → List (S120) → Int → Int → Bool → List (S120) → Int → Int → Int → Int → Option (Int)
 | 0, _, _, _, _, _, _, _, _, _, _ => none
 | k + 1, x3, x11, x12, x13, x31, x102000, x102001, x102002, x104000, x104001 => if x31 = true then (some 2) else (if x104000 < x3 then (some 6) else (QE.l0 k x104001 x11 x12 (wrap64 (x13 + 1)) x102000 x102001 x102002))
end
def QE.f (k : Nat) (l0_0 : List (S120)) (a0_1 : Int) (a0_2 : Int) : Option (Int) := if (l0_0.length : Int) > 8 then (some 5) else (QE.l0 k 0 l0_0 (l0_0.length : Int) 0 l0_0 a0_1 a0_2)
theorem QE.mono_l : ∀ k, (∀ y0 y1 y2 y3 y4 y5 y6, LeO (QE.l0 k y0 y1 y2 y3 y4 y5 y6) (QE.l0 (k + 1) y0 y1 y2 y3 y4 y5 y6)) ∧ (∀ y0 y1 y2 y3 y4 y5 y6 y7 y8 y9, LeO (QE.j1 k y0 y1 y2 y3 y4 y5 y6 y7 y8 y9) (QE.j1 (k + 1) y0 y1 y2 y3 y4 y5 y6 y7 y8 y9))
 | 0 => ⟨fun _ _ _ _ _ _ _ r h => by simp [QE.l0] at h, fun _ _ _ _ _ _ _ _ _ _ r h => by simp [QE.j1] at h⟩
 | k + 1 => by
  obtain ⟨ih0, ih1⟩ := QE.mono_l k
  refine ⟨?_, ?_⟩
  ·intro y0 y1 y2 y3 y4 y5 y6
   unfold QE.l0
   repeat' first
   | (with_reducible exact ih0 _ _ _ _ _ _ _)
   | (with_reducible exact ih1 _ _ _ _ _ _ _ _ _ _)
   | (with_reducible exact LeO.refl _)
   | (with_reducible exact LeO.none _)
   | (with_reducible refine LeO.ite ?_ ?_)
   | (with_reducible refine LeO.bind ?_ (fun _ => ?_))
   | exact ih0 _ _ _ _ _ _ _
   | exact ih1 _ _ _ _ _ _ _ _ _ _
   | exact LeO.none _
   | refine LeO.ite ?_ ?_
   | refine LeO.bind ?_ (fun _ => ?_)
  ·intro y0 y1 y2 y3 y4 y5 y6 y7 y8 y9
   unfold QE.j1
   repeat' first
   | (with_reducible exact ih0 _ _ _ _ _ _ _)
   | (with_reducible exact ih1 _ _ _ _ _ _ _ _ _ _)
   | (with_reducible exact LeO.refl _)
   | (with_reducible exact LeO.none _)
   | (with_reducible refine LeO.ite ?_ ?_)
   | (with_reducible refine LeO.bind ?_ (fun _ => ?_))
   | exact ih0 _ _ _ _ _ _ _
   | exact ih1 _ _ _ _ _ _ _ _ _ _
   | exact LeO.none _
   | refine LeO.ite ?_ ?_
   | refine LeO.bind ?_ (fun _ => ?_)
theorem QE.mono : ∀ a0 a1 a2 k, LeO (QE.f k a0 a1 a2) (QE.f (k + 1) a0 a1 a2) := by
 intro a0 a1 a2 k
 obtain ⟨ih0, ih1⟩ := QE.mono_l k
 unfold QE.f
 repeat' first
   | (with_reducible exact ih0 _ _ _ _ _ _ _)
   | (with_reducible exact ih1 _ _ _ _ _ _ _ _ _ _)
   | (with_reducible exact LeO.refl _)
   | (with_reducible exact LeO.none _)
   | (with_reducible refine LeO.ite ?_ ?_)
   | (with_reducible refine LeO.bind ?_ (fun _ => ?_))
   | exact ih0 _ _ _ _ _ _ _
   | exact ih1 _ _ _ _ _ _ _ _ _ _
   | exact LeO.none _
   | refine LeO.ite ?_ ?_
   | refine LeO.bind ?_ (fun _ => ?_)
set_option maxHeartbeats 8000000 in
set_option maxRecDepth 100000 in
theorem QE.calls (k : Nat) (A0_0 : Option Addr) (c0_0 : Nat) (l0_0 : List (S120)) (a0_1 : Int) (a0_2 : Int) (r : Int) (w : World) (hr0_0 : Kd.C k120 w A0_0 l0_0.length l0_0) (hc0_0 : l0_0.length ≤ c0_0) (h : QE.f k l0_0 a0_1 a0_2 = some r) :
  Calls Try.prog 59 #[.agg #[.slice A0_0 l0_0.length c0_0, .int .i64 a0_1, .int .i64 a0_2]] w fun e w' => e = .returned (.int .i64 r) ∧ Below w.heap.size w w' := by
 have hu56 := Try.underlying56
 have hu120 := Try.underlying120
 have HR0_0 := Qf.mk hr0_0
 have HC0_0 := Qf.mk hc0_0
 clear hr0_0 hc0_0
 have HB := Qf.mk (Below.refl w.heap.size w)
 have H : (if (l0_0.length : Int) > 8 then (some 5) else (QE.l0 k 0 l0_0 (l0_0.length : Int) 0 l0_0 a0_1 a0_2)) = some r := h
 clear h
 by_cases c2 : (l0_0.length : Int) > 8
 ·rw [if_pos c2] at H
  have c2b0 : decide (8 < (l0_0.length : Int)) = true := decide_eq_true c2
  have c2b1 : decide (8 < l0_0.length) = true := decide_eq_true (by omega)
  clear c2
  obtain rfl := Option.some.inj H
  go_enter Try.func59, Try.ntmps59
  go_wp2_with (first | ((with_reducible refine QM (N := 1) rfl ?_); refine QI ?hg (N := 1) ?hd (cs := #[.slice A0_0 l0_0.length c0_0, .int .i64 a0_1, .int .i64 a0_2]) (t := 56) ?hr ?_; (case hd => rfl); (case hg => rfl); (case hr => first | (go_simp; done) | (go_simp; rfl)); intro gb101 hg w3 hbox hb; have n0_ := Qf.mk (Qo (by repeat (first | (with_reducible first | exact HB.out | apply Qi | apply Qa | apply Qj) | exact HB.out)) hb); have n1_ := Qf.mk (hbox); have n2_ := Qf.mk ((by rw [hg]; exact (Qp (by repeat (first | (with_reducible first | exact HB.out | apply Qi | apply Qa | apply Qj) | exact HB.out))) : w.heap.size ≤ gb101)); have n3_ := Qf.mk ((by rw [hg]; exact (Qp (by repeat (first | (with_reducible first | exact HB.out | apply Qi | apply Qa | apply Qj) | exact HB.out))) : w.heap.size ≤ gb101)); clear HB; have HB := n0_; have BK101 := n1_; have GW101 := n2_; have GE101 := n3_; clear n0_ n1_ n2_ n3_; clear hb hbox hg; have hcz4_0 : w3.cell? ⟨gb101, 0, none⟩ = some (.slice A0_0 l0_0.length c0_0) := (Qe BK101.out 0).trans rfl; have hcz4_1 : w3.cell? ⟨gb101, 1, none⟩ = some (.int .i64 a0_1) := (Qe BK101.out 1).trans rfl; have hcz4_2 : w3.cell? ⟨gb101, 2, none⟩ = some (.int .i64 a0_2) := (Qe BK101.out 2).trans rfl; have hfz4_0 := Qc BK101.out 0; have hfz4_1 := Qc BK101.out 1; have hfz4_2 := Qc BK101.out 2))
  go_ret
  exact ⟨by first | rfl | (simp [Qw, Qx] <;> rfl) | (simp [*, Qw, Qx] <;> rfl), by repeat (first | (with_reducible first | exact HB.out | apply Qi | apply Qa | apply Qj | refine Qk ?_ GE101.out) | exact HB.out)⟩
 ·rw [if_neg c2] at H
  have c2b0 : decide (8 < (l0_0.length : Int)) = false := decide_eq_false c2
  have c2b1 : decide (8 < l0_0.length) = false := decide_eq_false (by omega)
  clear c2
  have H' := Qf.mk H
  clear H
  go_enter Try.func59, Try.ntmps59
  go_wp2_with (first | ((with_reducible refine QM (N := 1) rfl ?_); refine QI ?hg (N := 1) ?hd (cs := #[.slice A0_0 l0_0.length c0_0, .int .i64 a0_1, .int .i64 a0_2]) (t := 56) ?hr ?_; (case hd => rfl); (case hg => rfl); (case hr => first | (go_simp; done) | (go_simp; rfl)); intro gb101 hg w5 hbox hb; have n0_ := Qf.mk (Qo (by repeat (first | (with_reducible first | exact HB.out | apply Qi | apply Qa | apply Qj) | exact HB.out)) hb); have n1_ := Qf.mk (hbox); have n2_ := Qf.mk ((by rw [hg]; exact (Qp (by repeat (first | (with_reducible first | exact HB.out | apply Qi | apply Qa | apply Qj) | exact HB.out))) : w.heap.size ≤ gb101)); have n3_ := Qf.mk ((by rw [hg]; exact (Qp (by repeat (first | (with_reducible first | exact HB.out | apply Qi | apply Qa | apply Qj) | exact HB.out))) : w.heap.size ≤ gb101)); clear HB; have HB := n0_; have BK101 := n1_; have GW101 := n2_; have GE101 := n3_; clear n0_ n1_ n2_ n3_; clear hb hbox hg; have hcz6_0 : w5.cell? ⟨gb101, 0, none⟩ = some (.slice A0_0 l0_0.length c0_0) := (Qe BK101.out 0).trans rfl; have hcz6_1 : w5.cell? ⟨gb101, 1, none⟩ = some (.int .i64 a0_1) := (Qe BK101.out 1).trans rfl; have hcz6_2 : w5.cell? ⟨gb101, 2, none⟩ = some (.int .i64 a0_2) := (Qe BK101.out 2).trans rfl; have hfz6_0 := Qc BK101.out 0; have hfz6_1 := Qc BK101.out 1; have hfz6_2 := Qc BK101.out 2))
  go_loopg [3, 13] k (fun kq v3 v13 w' => ∃ (x3_1 : Int) (x13_1 : Int), v3 = .int .i64 x3_1 ∧ v13 = .int .i64 x13_1 ∧ Qf (QE.l0 kq x3_1 l0_0 (l0_0.length : Int) x13_1 l0_0 a0_1 a0_2 = some r) ∧ Qf (kq ≤ k) ∧ Qf (w'.heap[gb101]? = some (.cells #[(.slice A0_0 l0_0.length c0_0), .int .i64 a0_1, .int .i64 a0_2] 56 (0, 0))) ∧ Qf (Below w.heap.size w w'))
  case atStart => exact ⟨(0), (0), (by first | rfl | (simp; done) | (simp [*]; done)), (by first | rfl | (simp; done) | (simp [*]; done)), H', ⟨Nat.le_refl _⟩, ⟨by (with_reducible repeat (first | refine Qd ?_ _ | refine Qg ?_ | refine Qb ?_ _)); exact BK101.out⟩, ⟨by repeat (first | (with_reducible first | exact HB.out | apply Qi | apply Qa | apply Qj | refine Qk ?_ GE101.out) | exact HB.out)⟩⟩
  case round =>
   clear H'
   try clear c2
   try clear c2b0
   try clear c2b1
   try clear p2
   try clear c5
   try clear hcz4_0
   try clear hcz4_1
   try clear hcz4_2
   try clear hcz6_0
   try clear hcz6_1
   try clear hcz6_2
   try clear hfz4_0
   try clear hfz4_1
   try clear hfz4_2
   try clear hfz6_0
   try clear hfz6_1
   try clear hfz6_2
   obtain ⟨x3_1, x13_1, rfl, rfl, HA, HK1, BK101, HB⟩ := hrel
   cases gk with
   | zero => exact absurd HA.out (by simp [QE.l0])
   | succ k1 =>
    have H := HA.out
    clear HA
    simp only [QE.l0] at H
    by_cases c7 : x13_1 < (l0_0.length : Int)
    ·rw [if_pos c7] at H
     have c7b0 : decide (x13_1 < (l0_0.length : Int)) = true := decide_eq_true c7
     clear c7
     by_cases c8 : 0 ≤ x13_1
     ·rw [if_pos c8] at H
      have c8b0 : decide (0 ≤ x13_1) = true := decide_eq_true c8
      clear c8
      by_cases c9 : x13_1 < (l0_0.length : Int)
      ·rw [if_pos c9] at H
       have c9b0 : decide (x13_1 < (l0_0.length : Int)) = true := decide_eq_true c9
       clear c9
       have HC10 := Qf.mk H
       clear H
       have p102 : 0 ≤ (x13_1 : Int) := of_decide_eq_true (by first | (with_reducible assumption) | assumption)
       have q102 : x13_1 < (l0_0.length : Int) := of_decide_eq_true (by first | (with_reducible assumption) | assumption)
       obtain ⟨ad102, e102, hx102_0, hx102_1⟩ := at_T120 HR0_0.out x13_1 p102 q102
       cases e102
       replace hx102_0 := (HB.out.cell (World.block_lt_of_cell? w _ hx102_0)).trans hx102_0
       replace hx102_1 := (HB.out.cell (World.block_lt_of_cell? w _ hx102_1)).trans hx102_1
       replace p102 := eq_true p102
       replace q102 := eq_true q102
       go_upto_region 7 with (first | ((with_reducible refine QM (N := 5) rfl ?_); refine QI ?hg (N := 5) ?hd (cs := #[.int .i64 0, .int .i64 0]) (t := 120) ?hr ?_; (case hd => rfl); (case hg => rfl); (case hr => first | (go_simp; done) | (go_simp; rfl)); intro gb103 hg w11 hbox hb; have n0_ := Qf.mk (QF (g := gb101) (o := .cells #[.slice (some ad102) l0_0.length c0_0, .int .i64 a0_1, .int .i64 a0_2] 56 (0, 0)) (by (with_reducible repeat (first | refine Qd ?_ _ | refine Qg ?_ | refine Qb ?_ _)); exact BK101.out) hb); have n1_ := Qf.mk (Qo (by repeat (first | (with_reducible first | exact HB.out | apply Qi | apply Qa | apply Qj | refine Qk ?_ GE101.out) | exact HB.out)) hb); have n2_ := Qf.mk (hbox); have n3_ := Qf.mk ((by rw [hg]; exact (Qp (by repeat (first | (with_reducible first | exact HB.out | apply Qi | apply Qa | apply Qj | refine Qk ?_ GE101.out) | exact HB.out))) : w.heap.size ≤ gb103)); have n4_ := Qf.mk ((by rw [hg]; exact (Qp (by repeat (first | (with_reducible first | exact HB.out | apply Qi | apply Qa | apply Qj | refine Qk ?_ GE101.out) | exact HB.out))) : w.heap.size ≤ gb103)); have n5_ := Qf.mk ((by rw [hg]; exact Nat.ne_of_lt (QR (g := gb101) (o := .cells #[.slice (some ad102) l0_0.length c0_0, .int .i64 a0_1, .int .i64 a0_2] 56 (0, 0)) (by (with_reducible repeat (first | refine Qd ?_ _ | refine Qg ?_ | refine Qb ?_ _)); exact BK101.out)) : gb101 ≠ gb103)); have n6_ := Qf.mk ((by rw [hg]; exact Nat.ne_of_gt (QR (g := gb101) (o := .cells #[.slice (some ad102) l0_0.length c0_0, .int .i64 a0_1, .int .i64 a0_2] 56 (0, 0)) (by (with_reducible repeat (first | refine Qd ?_ _ | refine Qg ?_ | refine Qb ?_ _)); exact BK101.out)) : gb103 ≠ gb101)); clear BK101; clear HB; have BK101 := n0_; have HB := n1_; have BK103 := n2_; have GW103 := n3_; have GE103 := n4_; have NB101_103 := n5_; have NB103_101 := n6_; clear n0_ n1_ n2_ n3_ n4_ n5_ n6_; clear hb hbox hg; have hnb12 := NB103_101.out; have hnc12 := NB101_103.out; have hcz13_0 : w11.cell? ⟨gb103, 0, none⟩ = some (.int .i64 0) := (Qe BK103.out 0).trans rfl; have hcz13_1 : w11.cell? ⟨gb103, 1, none⟩ = some (.int .i64 0) := (Qe BK103.out 1).trans rfl; have hfz13_0 := Qc BK103.out 0; have hfz13_1 := Qc BK103.out 1))
       (try simp only [Act.put, List.setIfInBounds_toArray, List.set_cons_zero, List.set_cons_succ])
       go_cut [31] (fun v31 wc => ∃ (kq : Nat) (x31_9 : Bool), v31 = .bool x31_9 ∧ Qf (QE.j1 kq x3_1 l0_0 (l0_0.length : Int) x13_1 x31_9 l0_0 a0_1 a0_2 ((QU l0_0 x13_1).f0) ((QU l0_0 x13_1).f1) = some r) ∧ Qf (kq ≤ k1) ∧ Qf (wc.heap[gb101]? = some (.cells #[(.slice (some ad102) l0_0.length c0_0), .int .i64 a0_1, .int .i64 a0_2] 56 (0, 0))) ∧ Qf (wc.heap[gb103]? = some (.cells #[.int .i64 ((QU l0_0 x13_1).f0), .int .i64 ((QU l0_0 x13_1).f1)] 120 (0, 0))) ∧ Qf (Below w.heap.size w wc))
       case first =>
        have H := HC10.out
        clear HC10
        by_cases c14 : ((QU l0_0 x13_1).f0) < 0
        ·rw [if_pos c14] at H
         have c14b0 : decide (((QU l0_0 x13_1).f0) < 0) = true := decide_eq_true c14
         clear c14
         (first | rw [c14b0] | (simp only [Qt, Qu]; rw [c14b0]) | skip)
         have H' := Qf.mk H
         clear H
         have hnb15 := NB103_101.out
         have hnc15 := NB101_103.out
         have hcz16_0 : w11.cell? ⟨gb103, 0, none⟩ = some (.int .i64 0) := (Qe BK103.out 0).trans rfl
         have hcz16_1 : w11.cell? ⟨gb103, 1, none⟩ = some (.int .i64 0) := (Qe BK103.out 1).trans rfl
         have hfz16_0 := Qc BK103.out 0
         have hfz16_1 := Qc BK103.out 1
         go_wp2
         go_meet
         case rel => exact ⟨_, (true), (by first | rfl | (simp; done) | (simp [*]; done)), H', ⟨by have := HK1.out; first | omega | exact Nat.le_refl _⟩, ⟨by (with_reducible repeat (first | refine Qd ?_ _ | refine Qg ?_ | refine Qb ?_ _)); refine Qv ?_ NB101_103.out _; (with_reducible repeat (first | refine Qd ?_ _ | refine Qg ?_ | refine Qb ?_ _)); refine Qv ?_ NB101_103.out _; (with_reducible repeat (first | refine Qd ?_ _ | refine Qg ?_ | refine Qb ?_ _)); exact BK101.out⟩, ⟨by (with_reducible repeat (first | refine Qd ?_ _ | refine Qg ?_ | refine Qb ?_ _)); refine Qy (cs := #[.int .i64 ((QU l0_0 x13_1).f0), .int .i64 0]) ?_ 1 _ rfl; (with_reducible repeat (first | refine Qd ?_ _ | refine Qg ?_ | refine Qb ?_ _)); refine Qy (cs := #[.int .i64 0, .int .i64 0]) ?_ 0 _ rfl; (with_reducible repeat (first | refine Qd ?_ _ | refine Qg ?_ | refine Qb ?_ _)); exact BK103.out⟩, ⟨by repeat (first | (with_reducible first | exact HB.out | apply Qi | apply Qa | apply Qj | refine Qk ?_ GE101.out | refine Qk ?_ GE103.out) | exact HB.out)⟩⟩
        ·rw [if_neg c14] at H
         have c14b0 : decide (((QU l0_0 x13_1).f0) < 0) = false := decide_eq_false c14
         clear c14
         (first | rw [c14b0] | (simp only [Qt, Qu]; rw [c14b0]) | skip)
         by_cases c17 : ((QU l0_0 x13_1).f1) ≤ ((QU l0_0 x13_1).f0)
         ·rw [if_pos c17] at H
          have c17b0 : decide (((QU l0_0 x13_1).f1) ≤ ((QU l0_0 x13_1).f0)) = true := decide_eq_true c17
          clear c17
          have H' := Qf.mk H
          clear H
          have hnb18 := NB103_101.out
          have hnc18 := NB101_103.out
          have hcz19_0 : w11.cell? ⟨gb103, 0, none⟩ = some (.int .i64 0) := (Qe BK103.out 0).trans rfl
          have hcz19_1 : w11.cell? ⟨gb103, 1, none⟩ = some (.int .i64 0) := (Qe BK103.out 1).trans rfl
          have hfz19_0 := Qc BK103.out 0
          have hfz19_1 := Qc BK103.out 1
          go_wp2
          go_meet
          case rel => exact ⟨_, (true), (by first | rfl | (simp; done) | (simp [*]; done)), H', ⟨by have := HK1.out; first | omega | exact Nat.le_refl _⟩, ⟨by (with_reducible repeat (first | refine Qd ?_ _ | refine Qg ?_ | refine Qb ?_ _)); refine Qv ?_ NB101_103.out _; (with_reducible repeat (first | refine Qd ?_ _ | refine Qg ?_ | refine Qb ?_ _)); refine Qv ?_ NB101_103.out _; (with_reducible repeat (first | refine Qd ?_ _ | refine Qg ?_ | refine Qb ?_ _)); exact BK101.out⟩, ⟨by (with_reducible repeat (first | refine Qd ?_ _ | refine Qg ?_ | refine Qb ?_ _)); refine Qy (cs := #[.int .i64 ((QU l0_0 x13_1).f0), .int .i64 0]) ?_ 1 _ rfl; (with_reducible repeat (first | refine Qd ?_ _ | refine Qg ?_ | refine Qb ?_ _)); refine Qy (cs := #[.int .i64 0, .int .i64 0]) ?_ 0 _ rfl; (with_reducible repeat (first | refine Qd ?_ _ | refine Qg ?_ | refine Qb ?_ _)); exact BK103.out⟩, ⟨by repeat (first | (with_reducible first | exact HB.out | apply Qi | apply Qa | apply Qj | refine Qk ?_ GE101.out | refine Qk ?_ GE103.out) | exact HB.out)⟩⟩
         ·rw [if_neg c17] at H
          have c17b0 : decide (((QU l0_0 x13_1).f1) ≤ ((QU l0_0 x13_1).f0)) = false := decide_eq_false c17
          clear c17
          have H' := Qf.mk H
          clear H
          have hnb20 := NB103_101.out
          have hnc20 := NB101_103.out
          have hcz21_0 : w11.cell? ⟨gb103, 0, none⟩ = some (.int .i64 0) := (Qe BK103.out 0).trans rfl
          have hcz21_1 : w11.cell? ⟨gb103, 1, none⟩ = some (.int .i64 0) := (Qe BK103.out 1).trans rfl
          have hfz21_0 := Qc BK103.out 0
          have hfz21_1 := Qc BK103.out 1
          go_wp2
          go_meet
          case rel => exact ⟨_, (decide (((QU l0_0 x13_1).f1) > 1440)), (by first | rfl | (simp; done) | (simp [*]; done)), H', ⟨by have := HK1.out; first | omega | exact Nat.le_refl _⟩, ⟨by (with_reducible repeat (first | refine Qd ?_ _ | refine Qg ?_ | refine Qb ?_ _)); refine Qv ?_ NB101_103.out _; (with_reducible repeat (first | refine Qd ?_ _ | refine Qg ?_ | refine Qb ?_ _)); refine Qv ?_ NB101_103.out _; (with_reducible repeat (first | refine Qd ?_ _ | refine Qg ?_ | refine Qb ?_ _)); exact BK101.out⟩, ⟨by (with_reducible repeat (first | refine Qd ?_ _ | refine Qg ?_ | refine Qb ?_ _)); refine Qy (cs := #[.int .i64 ((QU l0_0 x13_1).f0), .int .i64 0]) ?_ 1 _ rfl; (with_reducible repeat (first | refine Qd ?_ _ | refine Qg ?_ | refine Qb ?_ _)); refine Qy (cs := #[.int .i64 0, .int .i64 0]) ?_ 0 _ rfl; (with_reducible repeat (first | refine Qd ?_ _ | refine Qg ?_ | refine Qb ?_ _)); exact BK103.out⟩, ⟨by repeat (first | (with_reducible first | exact HB.out | apply Qi | apply Qa | apply Qj | refine Qk ?_ GE101.out | refine Qk ?_ GE103.out) | exact HB.out)⟩⟩
       case rest =>
        clear HC10
        try clear c1
        try clear p1
        try clear q1
        try clear hx1
        try clear c2
        try clear c2b0
        try clear c2b1
        try clear p2
        try clear c5
        try clear c7
        try clear c7b0
        try clear c8
        try clear c8b0
        try clear c9
        try clear c9b0
        try clear p10
        try clear q10
        try clear hx10
        try clear c12
        try clear c14
        try clear c14b0
        try clear c15
        try clear c17
        try clear c17b0
        try clear c18
        try clear c20
        try clear hcz13_0
        try clear hcz13_1
        try clear hcz16_0
        try clear hcz16_1
        try clear hcz19_0
        try clear hcz19_1
        try clear hcz21_0
        try clear hcz21_1
        try clear hcz4_0
        try clear hcz4_1
        try clear hcz4_2
        try clear hcz6_0
        try clear hcz6_1
        try clear hcz6_2
        try clear hfz13_0
        try clear hfz13_1
        try clear hfz16_0
        try clear hfz16_1
        try clear hfz19_0
        try clear hfz19_1
        try clear hfz21_0
        try clear hfz21_1
        try clear hfz4_0
        try clear hfz4_1
        try clear hfz4_2
        try clear hfz6_0
        try clear hfz6_1
        try clear hfz6_2
        try clear hx102_0
        try clear hx102_1
        try clear p102
        try clear p2
        try clear q102
        obtain ⟨kq, x31_9, rfl, HA, HJ9, BK101, BK103, HB⟩ := hcut
        cases kq with
        | zero => exact absurd HA.out (by simp [QE.j1])
        | succ kj9 =>
         have H := HA.out
         clear HA
         simp only [QE.j1] at H
         by_cases c22 : x31_9 = true
         ·subst c22
          have H1 : (some 2) = some r := by rw [if_pos rfl] at H; exact H
          clear H
          have H := H1
          clear H1
          obtain rfl := Option.some.inj H
          go_wp2
          go_ret
          exact ⟨by first | rfl | (simp [Qw, Qx] <;> rfl) | (simp [*, Qw, Qx] <;> rfl), by repeat (first | (with_reducible first | exact HB.out | apply Qi | apply Qa | apply Qj | refine Qk ?_ GE101.out | refine Qk ?_ GE103.out) | exact HB.out)⟩
         ·replace c22 := Bool.eq_false_iff.mpr c22
          subst c22
          have H1 : (if ((QU l0_0 x13_1).f0) < x3_1 then (some 6) else (QE.l0 kj9 ((QU l0_0 x13_1).f1) l0_0 (l0_0.length : Int) (wrap64 (x13_1 + 1)) l0_0 a0_1 a0_2)) = some r := by rw [if_neg (show ¬ (false = true) by decide)] at H; exact H
          clear H
          have H := H1
          clear H1
          by_cases c23 : ((QU l0_0 x13_1).f0) < x3_1
          ·rw [if_pos c23] at H
           have c23b0 : decide (((QU l0_0 x13_1).f0) < x3_1) = true := decide_eq_true c23
           clear c23
           obtain rfl := Option.some.inj H
           have hnb24 := NB103_101.out
           have hnc24 := NB101_103.out
           have hcz25_0 : wc.cell? ⟨gb103, 0, none⟩ = some (.int .i64 ((QU l0_0 x13_1).f0)) := (Qe BK103.out 0).trans rfl
           have hcz25_1 : wc.cell? ⟨gb103, 1, none⟩ = some (.int .i64 ((QU l0_0 x13_1).f1)) := (Qe BK103.out 1).trans rfl
           have hfz25_0 := Qc BK103.out 0
           have hfz25_1 := Qc BK103.out 1
           go_wp2
           go_ret
           exact ⟨by first | rfl | (simp [Qw, Qx] <;> rfl) | (simp [*, Qw, Qx] <;> rfl), by repeat (first | (with_reducible first | exact HB.out | apply Qi | apply Qa | apply Qj | refine Qk ?_ GE101.out | refine Qk ?_ GE103.out) | exact HB.out)⟩
          ·rw [if_neg c23] at H
           have c23b0 : decide (((QU l0_0 x13_1).f0) < x3_1) = false := decide_eq_false c23
           clear c23
           have H' := Qf.mk H
           clear H
           have hnb26 := NB103_101.out
           have hnc26 := NB101_103.out
           have hcz27_0 : wc.cell? ⟨gb103, 0, none⟩ = some (.int .i64 ((QU l0_0 x13_1).f0)) := (Qe BK103.out 0).trans rfl
           have hcz27_1 : wc.cell? ⟨gb103, 1, none⟩ = some (.int .i64 ((QU l0_0 x13_1).f1)) := (Qe BK103.out 1).trans rfl
           have hfz27_0 := Qc BK103.out 0
           have hfz27_1 := Qc BK103.out 1
           go_wp2
           go_roundg kj9
           case measure => have := HK1.out; have := HJ9.out; omega
           case rel => exact ⟨(((QU l0_0 x13_1).f1)), (wrap64 (x13_1 + 1)), (by first | rfl | (simp; done) | (simp [*]; done)), (by first | rfl | (simp; done) | (simp [*]; done)), H', ⟨by have := HK1.out; have := HJ9.out; omega⟩, ⟨by (with_reducible repeat (first | refine Qd ?_ _ | refine Qg ?_ | refine Qb ?_ _)); exact BK101.out⟩, ⟨by repeat (first | (with_reducible first | exact HB.out | apply Qi | apply Qa | apply Qj | refine Qk ?_ GE101.out | refine Qk ?_ GE103.out) | exact HB.out)⟩⟩
      ·rw [if_neg c9] at H
       exact absurd H (by simp)
     ·rw [if_neg c8] at H
      exact absurd H (by simp)
    ·rw [if_neg c7] at H
     have c7b0 : decide (x13_1 < (l0_0.length : Int)) = false := decide_eq_false c7
     clear c7
     by_cases c28 : a0_2 < 0
     ·rw [if_pos c28] at H
      have c28b0 : decide (a0_2 < 0) = true := decide_eq_true c28
      clear c28
      obtain rfl := Option.some.inj H
      have hcz29_0 : wr.cell? ⟨gb101, 0, none⟩ = some (.slice A0_0 l0_0.length c0_0) := (Qe BK101.out 0).trans rfl
      have hcz29_1 : wr.cell? ⟨gb101, 1, none⟩ = some (.int .i64 a0_1) := (Qe BK101.out 1).trans rfl
      have hcz29_2 : wr.cell? ⟨gb101, 2, none⟩ = some (.int .i64 a0_2) := (Qe BK101.out 2).trans rfl
      have hfz29_0 := Qc BK101.out 0
      have hfz29_1 := Qc BK101.out 1
      have hfz29_2 := Qc BK101.out 2
      go_wp2
      go_ret
      exact ⟨by first | rfl | (simp [Qw, Qx] <;> rfl) | (simp [*, Qw, Qx] <;> rfl), by repeat (first | (with_reducible first | exact HB.out | apply Qi | apply Qa | apply Qj | refine Qk ?_ GE101.out) | exact HB.out)⟩
     ·rw [if_neg c28] at H
      have c28b0 : decide (a0_2 < 0) = false := decide_eq_false c28
      clear c28
      by_cases c30 : a0_2 = 0
      ·rw [if_pos c30] at H
       have c30b0 : (a0_2 == 0) = true := beq_iff_eq.mpr c30
       have c30b1 : (a0_2 != 0) = false := bne_eq_false_iff_eq.mpr c30
       clear c30
       by_cases c31 : a0_1 = 0
       ·rw [if_pos c31] at H
        have c31b0 : (a0_1 == 0) = true := beq_iff_eq.mpr c31
        have c31b1 : (a0_1 != 0) = false := bne_eq_false_iff_eq.mpr c31
        clear c31
        by_cases c32 : a0_2 > 0
        ·rw [if_pos c32] at H
         have c32b0 : decide (0 < a0_2) = true := decide_eq_true c32
         clear c32
         by_cases c33 : a0_1 < 0
         ·rw [if_pos c33] at H
          have c33b0 : decide (a0_1 < 0) = true := decide_eq_true c33
          clear c33
          obtain rfl := Option.some.inj H
          have hcz34_0 : wr.cell? ⟨gb101, 0, none⟩ = some (.slice A0_0 l0_0.length c0_0) := (Qe BK101.out 0).trans rfl
          have hcz34_1 : wr.cell? ⟨gb101, 1, none⟩ = some (.int .i64 a0_1) := (Qe BK101.out 1).trans rfl
          have hcz34_2 : wr.cell? ⟨gb101, 2, none⟩ = some (.int .i64 a0_2) := (Qe BK101.out 2).trans rfl
          have hfz34_0 := Qc BK101.out 0
          have hfz34_1 := Qc BK101.out 1
          have hfz34_2 := Qc BK101.out 2
          go_wp2
          go_ret
          exact ⟨by first | rfl | (simp [Qw, Qx] <;> rfl) | (simp [*, Qw, Qx] <;> rfl), by repeat (first | (with_reducible first | exact HB.out | apply Qi | apply Qa | apply Qj | refine Qk ?_ GE101.out) | exact HB.out)⟩
         ·rw [if_neg c33] at H
          have c33b0 : decide (a0_1 < 0) = false := decide_eq_false c33
          clear c33
          by_cases c35 : a0_1 ≥ 1440
          ·rw [if_pos c35] at H
           have c35b0 : decide (1440 ≤ a0_1) = true := decide_eq_true c35
           clear c35
           obtain rfl := Option.some.inj H
           have hcz36_0 : wr.cell? ⟨gb101, 0, none⟩ = some (.slice A0_0 l0_0.length c0_0) := (Qe BK101.out 0).trans rfl
           have hcz36_1 : wr.cell? ⟨gb101, 1, none⟩ = some (.int .i64 a0_1) := (Qe BK101.out 1).trans rfl
           have hcz36_2 : wr.cell? ⟨gb101, 2, none⟩ = some (.int .i64 a0_2) := (Qe BK101.out 2).trans rfl
           have hfz36_0 := Qc BK101.out 0
           have hfz36_1 := Qc BK101.out 1
           have hfz36_2 := Qc BK101.out 2
           go_wp2
           go_ret
           exact ⟨by first | rfl | (simp [Qw, Qx] <;> rfl) | (simp [*, Qw, Qx] <;> rfl), by repeat (first | (with_reducible first | exact HB.out | apply Qi | apply Qa | apply Qj | refine Qk ?_ GE101.out) | exact HB.out)⟩
          ·rw [if_neg c35] at H
           have c35b0 : decide (1440 ≤ a0_1) = false := decide_eq_false c35
           clear c35
           obtain rfl := Option.some.inj H
           have hcz37_0 : wr.cell? ⟨gb101, 0, none⟩ = some (.slice A0_0 l0_0.length c0_0) := (Qe BK101.out 0).trans rfl
           have hcz37_1 : wr.cell? ⟨gb101, 1, none⟩ = some (.int .i64 a0_1) := (Qe BK101.out 1).trans rfl
           have hcz37_2 : wr.cell? ⟨gb101, 2, none⟩ = some (.int .i64 a0_2) := (Qe BK101.out 2).trans rfl
           have hfz37_0 := Qc BK101.out 0
           have hfz37_1 := Qc BK101.out 1
           have hfz37_2 := Qc BK101.out 2
           go_wp2
           go_ret
           exact ⟨by first | rfl | (simp [Qw, Qx] <;> rfl) | (simp [*, Qw, Qx] <;> rfl), by repeat (first | (with_reducible first | exact HB.out | apply Qi | apply Qa | apply Qj | refine Qk ?_ GE101.out) | exact HB.out)⟩
        ·rw [if_neg c32] at H
         have c32b0 : decide (0 < a0_2) = false := decide_eq_false c32
         clear c32
         obtain rfl := Option.some.inj H
         have hcz38_0 : wr.cell? ⟨gb101, 0, none⟩ = some (.slice A0_0 l0_0.length c0_0) := (Qe BK101.out 0).trans rfl
         have hcz38_1 : wr.cell? ⟨gb101, 1, none⟩ = some (.int .i64 a0_1) := (Qe BK101.out 1).trans rfl
         have hcz38_2 : wr.cell? ⟨gb101, 2, none⟩ = some (.int .i64 a0_2) := (Qe BK101.out 2).trans rfl
         have hfz38_0 := Qc BK101.out 0
         have hfz38_1 := Qc BK101.out 1
         have hfz38_2 := Qc BK101.out 2
         go_wp2
         go_ret
         exact ⟨by first | rfl | (simp [Qw, Qx] <;> rfl) | (simp [*, Qw, Qx] <;> rfl), by repeat (first | (with_reducible first | exact HB.out | apply Qi | apply Qa | apply Qj | refine Qk ?_ GE101.out) | exact HB.out)⟩
       ·rw [if_neg c31] at H
        have c31b0 : (a0_1 == 0) = false := beq_eq_false_iff_ne.mpr c31
        have c31b1 : (a0_1 != 0) = true := bne_iff_ne.mpr c31
        obtain rfl := Option.some.inj H
        have hcz39_0 : wr.cell? ⟨gb101, 0, none⟩ = some (.slice A0_0 l0_0.length c0_0) := (Qe BK101.out 0).trans rfl
        have hcz39_1 : wr.cell? ⟨gb101, 1, none⟩ = some (.int .i64 a0_1) := (Qe BK101.out 1).trans rfl
        have hcz39_2 : wr.cell? ⟨gb101, 2, none⟩ = some (.int .i64 a0_2) := (Qe BK101.out 2).trans rfl
        have hfz39_0 := Qc BK101.out 0
        have hfz39_1 := Qc BK101.out 1
        have hfz39_2 := Qc BK101.out 2
        go_wp2
        go_ret
        exact ⟨by first | rfl | (simp [Qw, Qx] <;> rfl) | (simp [*, Qw, Qx] <;> rfl), by repeat (first | (with_reducible first | exact HB.out | apply Qi | apply Qa | apply Qj | refine Qk ?_ GE101.out) | exact HB.out)⟩
      ·rw [if_neg c30] at H
       have c30b0 : (a0_2 == 0) = false := beq_eq_false_iff_ne.mpr c30
       have c30b1 : (a0_2 != 0) = true := bne_iff_ne.mpr c30
       by_cases c40 : a0_2 > 0
       ·rw [if_pos c40] at H
        have c40b0 : decide (0 < a0_2) = true := decide_eq_true c40
        clear c40
        by_cases c41 : a0_1 < 0
        ·rw [if_pos c41] at H
         have c41b0 : decide (a0_1 < 0) = true := decide_eq_true c41
         clear c41
         obtain rfl := Option.some.inj H
         have hcz42_0 : wr.cell? ⟨gb101, 0, none⟩ = some (.slice A0_0 l0_0.length c0_0) := (Qe BK101.out 0).trans rfl
         have hcz42_1 : wr.cell? ⟨gb101, 1, none⟩ = some (.int .i64 a0_1) := (Qe BK101.out 1).trans rfl
         have hcz42_2 : wr.cell? ⟨gb101, 2, none⟩ = some (.int .i64 a0_2) := (Qe BK101.out 2).trans rfl
         have hfz42_0 := Qc BK101.out 0
         have hfz42_1 := Qc BK101.out 1
         have hfz42_2 := Qc BK101.out 2
         go_wp2
         go_ret
         exact ⟨by first | rfl | (simp [Qw, Qx] <;> rfl) | (simp [*, Qw, Qx] <;> rfl), by repeat (first | (with_reducible first | exact HB.out | apply Qi | apply Qa | apply Qj | refine Qk ?_ GE101.out) | exact HB.out)⟩
        ·rw [if_neg c41] at H
         have c41b0 : decide (a0_1 < 0) = false := decide_eq_false c41
         clear c41
         by_cases c43 : a0_1 ≥ 1440
         ·rw [if_pos c43] at H
          have c43b0 : decide (1440 ≤ a0_1) = true := decide_eq_true c43
          clear c43
          obtain rfl := Option.some.inj H
          have hcz44_0 : wr.cell? ⟨gb101, 0, none⟩ = some (.slice A0_0 l0_0.length c0_0) := (Qe BK101.out 0).trans rfl
          have hcz44_1 : wr.cell? ⟨gb101, 1, none⟩ = some (.int .i64 a0_1) := (Qe BK101.out 1).trans rfl
          have hcz44_2 : wr.cell? ⟨gb101, 2, none⟩ = some (.int .i64 a0_2) := (Qe BK101.out 2).trans rfl
          have hfz44_0 := Qc BK101.out 0
          have hfz44_1 := Qc BK101.out 1
          have hfz44_2 := Qc BK101.out 2
          go_wp2
          go_ret
          exact ⟨by first | rfl | (simp [Qw, Qx] <;> rfl) | (simp [*, Qw, Qx] <;> rfl), by repeat (first | (with_reducible first | exact HB.out | apply Qi | apply Qa | apply Qj | refine Qk ?_ GE101.out) | exact HB.out)⟩
         ·rw [if_neg c43] at H
          have c43b0 : decide (1440 ≤ a0_1) = false := decide_eq_false c43
          clear c43
          obtain rfl := Option.some.inj H
          have hcz45_0 : wr.cell? ⟨gb101, 0, none⟩ = some (.slice A0_0 l0_0.length c0_0) := (Qe BK101.out 0).trans rfl
          have hcz45_1 : wr.cell? ⟨gb101, 1, none⟩ = some (.int .i64 a0_1) := (Qe BK101.out 1).trans rfl
          have hcz45_2 : wr.cell? ⟨gb101, 2, none⟩ = some (.int .i64 a0_2) := (Qe BK101.out 2).trans rfl
          have hfz45_0 := Qc BK101.out 0
          have hfz45_1 := Qc BK101.out 1
          have hfz45_2 := Qc BK101.out 2
          go_wp2
          go_ret
          exact ⟨by first | rfl | (simp [Qw, Qx] <;> rfl) | (simp [*, Qw, Qx] <;> rfl), by repeat (first | (with_reducible first | exact HB.out | apply Qi | apply Qa | apply Qj | refine Qk ?_ GE101.out) | exact HB.out)⟩
       ·rw [if_neg c40] at H
        have c40b0 : decide (0 < a0_2) = false := decide_eq_false c40
        clear c40
        obtain rfl := Option.some.inj H
        have hcz46_0 : wr.cell? ⟨gb101, 0, none⟩ = some (.slice A0_0 l0_0.length c0_0) := (Qe BK101.out 0).trans rfl
        have hcz46_1 : wr.cell? ⟨gb101, 1, none⟩ = some (.int .i64 a0_1) := (Qe BK101.out 1).trans rfl
        have hcz46_2 : wr.cell? ⟨gb101, 2, none⟩ = some (.int .i64 a0_2) := (Qe BK101.out 2).trans rfl
        have hfz46_0 := Qc BK101.out 0
        have hfz46_1 := Qc BK101.out 1
        have hfz46_2 := Qc BK101.out 2
        go_wp2
        go_ret
        exact ⟨by first | rfl | (simp [Qw, Qx] <;> rfl) | (simp [*, Qw, Qx] <;> rfl), by repeat (first | (with_reducible first | exact HB.out | apply Qi | apply Qa | apply Qj | refine Qk ?_ GE101.out) | exact HB.out)⟩

end Go.Proofs.Ytbkfjmpnbalkaaa.QTurnsPieces
