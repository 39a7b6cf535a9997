-- Written by a program of this session (wip/ext.py) with the kit's print; Lean checks it.
import Derived.Test.YtbkfjmpnbalkaaaQTurnsAllowsx0
import Derived.Test.YtbkfjmpnbalkaaaQTurnsAllowsx6
namespace Go.Proofs.Ytbkfjmpnbalkaaa.QTurnsAllows
open Go.RowKit Go.Proofs.YtbkfjmpnbalkaaaW.PrintWords Go.Proofs.YtbkfjmpnbalkaaaW.PrintLast Go.Proofs.YtbkfjmpnbalkaaaW.PrintMore
attribute [local go_sem] max2_int min2_int max_two min_two max_three min_three max_four min_four   -- for this text's walks alone
set_option linter.unusedVariables false
set_option linter.unusedSimpArgs false

/-! ### mapmakerref46_Check: function 20 -/
mutual
def mapmakerref46_Check.l0 : Nat → Int → Int → List Int → List (S158) → List (S58) → Option (Int)
  | 0, _, _, _, _, _ => none
  | k + 1, x3, x4, x132000, x132001, x132002 => if x4 < x3 then (if 0 ≤ (wrap64 (x4 - 1)) then (if (wrap64 (x4 - 1)) < (x132000.length : Int) then (if 0 ≤ x4 then (if x4 < (x132000.length : Int) then (if (rd x132000 (wrap64 (x4 - 1))) ≥ (rd x132000 x4) then (some 6) else (mapmakerref46_Check.l0 k x3 (wrap64 (x4 + 1)) x132000 x132001 x132002)) else (none)) else (none)) else (none)) else (none)) else (mapmakerref46_Check.l1 k x3 0 x132000 x132001 x132002)
def mapmakerref46_Check.l1 : Nat → Int → Int → List Int → List (S158) → List (S58) → Option (Int)
  | 0, _, _, _, _, _ => none
  | k + 1, x3, x5, x132000, x132001, x132002 => if x5 < (x132002.length : Int) then (if 0 ≤ x5 then (if ((rd_T58 x132002 x5).f0) < 0 then (mapmakerref46_Check.j2 k x3 x5 true x132000 x132001 x132002 ((rd_T58 x132002 x5).f0) ((rd_T58 x132002 x5).f1) ((rd_T58 x132002 x5).f2) ((rd_T58 x132002 x5).f3) ((rd_T58 x132002 x5).f4) ((rd_T58 x132002 x5).f5.f0) ((rd_T58 x132002 x5).f5.f1) ((rd_T58 x132002 x5).f5.f2)) else (if ((rd_T58 x132002 x5).f0) ≥ x3 then (mapmakerref46_Check.j2 k x3 x5 true x132000 x132001 x132002 ((rd_T58 x132002 x5).f0) ((rd_T58 x132002 x5).f1) ((rd_T58 x132002 x5).f2) ((rd_T58 x132002 x5).f3) ((rd_T58 x132002 x5).f4) ((rd_T58 x132002 x5).f5.f0) ((rd_T58 x132002 x5).f5.f1) ((rd_T58 x132002 x5).f5.f2)) else (if ((rd_T58 x132002 x5).f1) < 0 then (mapmakerref46_Check.j2 k x3 x5 true x132000 x132001 x132002 ((rd_T58 x132002 x5).f0) ((rd_T58 x132002 x5).f1) ((rd_T58 x132002 x5).f2) ((rd_T58 x132002 x5).f3) ((rd_T58 x132002 x5).f4) ((rd_T58 x132002 x5).f5.f0) ((rd_T58 x132002 x5).f5.f1) ((rd_T58 x132002 x5).f5.f2)) else (if ((rd_T58 x132002 x5).f1) ≥ x3 then (mapmakerref46_Check.j2 k x3 x5 true x132000 x132001 x132002 ((rd_T58 x132002 x5).f0) ((rd_T58 x132002 x5).f1) ((rd_T58 x132002 x5).f2) ((rd_T58 x132002 x5).f3) ((rd_T58 x132002 x5).f4) ((rd_T58 x132002 x5).f5.f0) ((rd_T58 x132002 x5).f5.f1) ((rd_T58 x132002 x5).f5.f2)) else (if ((rd_T58 x132002 x5).f2) < 1 then (mapmakerref46_Check.j2 k x3 x5 true x132000 x132001 x132002 ((rd_T58 x132002 x5).f0) ((rd_T58 x132002 x5).f1) ((rd_T58 x132002 x5).f2) ((rd_T58 x132002 x5).f3) ((rd_T58 x132002 x5).f4) ((rd_T58 x132002 x5).f5.f0) ((rd_T58 x132002 x5).f5.f1) ((rd_T58 x132002 x5).f5.f2)) else (if ((rd_T58 x132002 x5).f2) > 2147483647 then (mapmakerref46_Check.j2 k x3 x5 true x132000 x132001 x132002 ((rd_T58 x132002 x5).f0) ((rd_T58 x132002 x5).f1) ((rd_T58 x132002 x5).f2) ((rd_T58 x132002 x5).f3) ((rd_T58 x132002 x5).f4) ((rd_T58 x132002 x5).f5.f0) ((rd_T58 x132002 x5).f5.f1) ((rd_T58 x132002 x5).f5.f2)) else (if ((rd_T58 x132002 x5).f4) < 1 then (mapmakerref46_Check.j2 k x3 x5 true x132000 x132001 x132002 ((rd_T58 x132002 x5).f0) ((rd_T58 x132002 x5).f1) ((rd_T58 x132002 x5).f2) ((rd_T58 x132002 x5).f3) ((rd_T58 x132002 x5).f4) ((rd_T58 x132002 x5).f5.f0) ((rd_T58 x132002 x5).f5.f1) ((rd_T58 x132002 x5).f5.f2)) else (if ((rd_T58 x132002 x5).f4) > 6 then (mapmakerref46_Check.j2 k x3 x5 true x132000 x132001 x132002 ((rd_T58 x132002 x5).f0) ((rd_T58 x132002 x5).f1) ((rd_T58 x132002 x5).f2) ((rd_T58 x132002 x5).f3) ((rd_T58 x132002 x5).f4) ((rd_T58 x132002 x5).f5.f0) ((rd_T58 x132002 x5).f5.f1) ((rd_T58 x132002 x5).f5.f2)) else (if ((rd_T58 x132002 x5).f3) < 0 then (mapmakerref46_Check.j2 k x3 x5 true x132000 x132001 x132002 ((rd_T58 x132002 x5).f0) ((rd_T58 x132002 x5).f1) ((rd_T58 x132002 x5).f2) ((rd_T58 x132002 x5).f3) ((rd_T58 x132002 x5).f4) ((rd_T58 x132002 x5).f5.f0) ((rd_T58 x132002 x5).f5.f1) ((rd_T58 x132002 x5).f5.f2)) else (mapmakerref46_Check.j2 k x3 x5 (decide (((rd_T58 x132002 x5).f3) > 67108864)) x132000 x132001 x132002 ((rd_T58 x132002 x5).f0) ((rd_T58 x132002 x5).f1) ((rd_T58 x132002 x5).f2) ((rd_T58 x132002 x5).f3) ((rd_T58 x132002 x5).f4) ((rd_T58 x132002 x5).f5.f0) ((rd_T58 x132002 x5).f5.f1) ((rd_T58 x132002 x5).f5.f2))))))))))) else (none)) else (some 0)
def mapmakerref46_Check.j2 : Nat → Int → Int → Bool → List Int → List (S158) → List (S58) → Int → Int → Int → Int → Int → List (S120) → Int → Int → Option (Int)
  | 0, _, _, _, _, _, _, _, _, _, _, _, _, _, _ => none
  | k + 1, x3, x5, x94, x132000, x132001, x132002, x136000, x136001, x136002, x136003, x136004, x136005, x136006, x136007 => if x94 = true then (some 2) else ((mapmakerref07_Check.f k x136005 x136006 x136007).bind fun t136 => (if t136 = 0 then (mapmakerref46_Check.l1 k x3 (wrap64 (x5 + 1)) x132000 x132001 x132002) else (some t136)))
end
def mapmakerref46_Check.f (k : Nat) (l0_0 : List Int) (l0_1 : List (S158)) (l0_2 : List (S58)) : Option (Int) := if (l0_0.length : Int) = (l0_1.length : Int) then (mapmakerref46_Check.l0 k (l0_0.length : Int) 1 l0_0 l0_1 l0_2) else (some 12)
theorem mapmakerref46_Check.mono_l : ∀ k, (∀ y0 y1 y2 y3 y4, LeO (mapmakerref46_Check.l0 k y0 y1 y2 y3 y4) (mapmakerref46_Check.l0 (k + 1) y0 y1 y2 y3 y4)) ∧ (∀ y0 y1 y2 y3 y4, LeO (mapmakerref46_Check.l1 k y0 y1 y2 y3 y4) (mapmakerref46_Check.l1 (k + 1) y0 y1 y2 y3 y4)) ∧ (∀ y0 y1 y2 y3 y4 y5 y6 y7 y8 y9 y10 y11 y12 y13, LeO (mapmakerref46_Check.j2 k y0 y1 y2 y3 y4 y5 y6 y7 y8 y9 y10 y11 y12 y13) (mapmakerref46_Check.j2 (k + 1) y0 y1 y2 y3 y4 y5 y6 y7 y8 y9 y10 y11 y12 y13))
  | 0 => ⟨fun _ _ _ _ _ r h => by simp [mapmakerref46_Check.l0] at h, fun _ _ _ _ _ r h => by simp [mapmakerref46_Check.l1] at h, fun _ _ _ _ _ _ _ _ _ _ _ _ _ _ r h => by simp [mapmakerref46_Check.j2] at h⟩
  | k + 1 => by
    obtain ⟨ih0, ih1, ih2⟩ := mapmakerref46_Check.mono_l k
    refine ⟨?_, ?_, ?_⟩
    · intro y0 y1 y2 y3 y4
      unfold mapmakerref46_Check.l0
      repeat' first
      | (with_reducible exact ih0 _ _ _ _ _)
      | (with_reducible exact ih1 _ _ _ _ _)
      | (with_reducible exact ih2 _ _ _ _ _ _ _ _ _ _ _ _ _ _)
      | (with_reducible exact mapmakerref07_Check.mono _ _ _ _)
      | (with_reducible exact LeO.refl _)
      | (with_reducible exact LeO.none _)
      | (with_reducible refine LeO.ite ?_ ?_)
      | (with_reducible refine LeO.bind ?_ (fun _ => ?_))
      | exact ih0 _ _ _ _ _
      | exact ih1 _ _ _ _ _
      | exact ih2 _ _ _ _ _ _ _ _ _ _ _ _ _ _
      | exact mapmakerref07_Check.mono _ _ _ _
      | exact LeO.none _
      | refine LeO.ite ?_ ?_
      | refine LeO.bind ?_ (fun _ => ?_)
    · intro y0 y1 y2 y3 y4
      unfold mapmakerref46_Check.l1
      repeat' first
      | (with_reducible exact ih0 _ _ _ _ _)
      | (with_reducible exact ih1 _ _ _ _ _)
      | (with_reducible exact ih2 _ _ _ _ _ _ _ _ _ _ _ _ _ _)
      | (with_reducible exact mapmakerref07_Check.mono _ _ _ _)
      | (with_reducible exact LeO.refl _)
      | (with_reducible exact LeO.none _)
      | (with_reducible refine LeO.ite ?_ ?_)
      | (with_reducible refine LeO.bind ?_ (fun _ => ?_))
      | exact ih0 _ _ _ _ _
      | exact ih1 _ _ _ _ _
      | exact ih2 _ _ _ _ _ _ _ _ _ _ _ _ _ _
      | exact mapmakerref07_Check.mono _ _ _ _
      | exact LeO.none _
      | refine LeO.ite ?_ ?_
      | refine LeO.bind ?_ (fun _ => ?_)
    · intro y0 y1 y2 y3 y4 y5 y6 y7 y8 y9 y10 y11 y12 y13
      unfold mapmakerref46_Check.j2
      repeat' first
      | (with_reducible exact ih0 _ _ _ _ _)
      | (with_reducible exact ih1 _ _ _ _ _)
      | (with_reducible exact ih2 _ _ _ _ _ _ _ _ _ _ _ _ _ _)
      | (with_reducible exact mapmakerref07_Check.mono _ _ _ _)
      | (with_reducible exact LeO.refl _)
      | (with_reducible exact LeO.none _)
      | (with_reducible refine LeO.ite ?_ ?_)
      | (with_reducible refine LeO.bind ?_ (fun _ => ?_))
      | exact ih0 _ _ _ _ _
      | exact ih1 _ _ _ _ _
      | exact ih2 _ _ _ _ _ _ _ _ _ _ _ _ _ _
      | exact mapmakerref07_Check.mono _ _ _ _
      | exact LeO.none _
      | refine LeO.ite ?_ ?_
      | refine LeO.bind ?_ (fun _ => ?_)
theorem mapmakerref46_Check.mono : ∀ a0 a1 a2 k, LeO (mapmakerref46_Check.f k a0 a1 a2) (mapmakerref46_Check.f (k + 1) a0 a1 a2) := by
  intro a0 a1 a2 k
  obtain ⟨ih0, ih1, ih2⟩ := mapmakerref46_Check.mono_l k
  unfold mapmakerref46_Check.f
  repeat' first
      | (with_reducible exact ih0 _ _ _ _ _)
      | (with_reducible exact ih1 _ _ _ _ _)
      | (with_reducible exact ih2 _ _ _ _ _ _ _ _ _ _ _ _ _ _)
      | (with_reducible exact mapmakerref07_Check.mono _ _ _ _)
      | (with_reducible exact LeO.refl _)
      | (with_reducible exact LeO.none _)
      | (with_reducible refine LeO.ite ?_ ?_)
      | (with_reducible refine LeO.bind ?_ (fun _ => ?_))
      | exact ih0 _ _ _ _ _
      | exact ih1 _ _ _ _ _
      | exact ih2 _ _ _ _ _ _ _ _ _ _ _ _ _ _
      | exact mapmakerref07_Check.mono _ _ _ _
      | exact LeO.none _
      | refine LeO.ite ?_ ?_
      | refine LeO.bind ?_ (fun _ => ?_)
set_option maxHeartbeats 8000000 in
set_option maxRecDepth 100000 in
theorem mapmakerref46_Check.calls (k : Nat) (A0_0 : Option Addr) (c0_0 : Nat) (l0_0 : List Int) (A0_1 : Option Addr) (c0_1 : Nat) (l0_1 : List (S158)) (A0_2 : Option Addr) (c0_2 : Nat) (l0_2 : List (S58)) (r : Int) (w : World) (hr0_0 : Kd.C (Kd.int .i64) w A0_0 l0_0.length l0_0) (hc0_0 : l0_0.length ≤ c0_0) (hr0_1 : Kd.C k158 w A0_1 l0_1.length l0_1) (hc0_1 : l0_1.length ≤ c0_1) (hr0_2 : Kd.C k58 w A0_2 l0_2.length l0_2) (hc0_2 : l0_2.length ≤ c0_2) (h : mapmakerref46_Check.f k l0_0 l0_1 l0_2 = some r) :
    Calls Try.prog 20 #[.agg #[.slice A0_0 l0_0.length c0_0, .slice A0_1 l0_1.length c0_1, .slice A0_2 l0_2.length c0_2]] w fun e w' => e = .returned (.int .i64 r) ∧ Below w.heap.size w w' := by
  have hu37 := Try.underlying37
  have hu58 := Try.underlying58
  have hu56 := Try.underlying56
  have HR0_0 := Aside0.mk hr0_0
  have HC0_0 := Aside0.mk hc0_0
  clear hr0_0 hc0_0
  have HR0_1 := Aside0.mk hr0_1
  have HC0_1 := Aside0.mk hc0_1
  clear hr0_1 hc0_1
  have HR0_2 := Aside0.mk hr0_2
  have HC0_2 := Aside0.mk hc0_2
  clear hr0_2 hc0_2
  have HB := Aside0.mk (Below.refl w.heap.size w)
  have H : (if (l0_0.length : Int) = (l0_1.length : Int) then (mapmakerref46_Check.l0 k (l0_0.length : Int) 1 l0_0 l0_1 l0_2) else (some 12)) = some r := h
  clear h
  by_cases c2 : (l0_0.length : Int) = (l0_1.length : Int)
  · rw [if_pos c2] at H
    have c2b0 : ((l0_0.length : Int) == (l0_1.length : Int)) = true := beq_iff_eq.mpr c2
    have c2b1 : ((l0_0.length : Int) != (l0_1.length : Int)) = false := bne_eq_false_iff_eq.mpr c2
    have c2b2 : (l0_0.length == l0_1.length) = true := by first | simpa using c2 | (simp at c2 ⊢; omega)
    clear c2
    have H' := Aside0.mk H
    clear H
    go_enter Try.func20, Try.ntmps20
    go_wp2_with (first | ((with_reducible refine gate_dst (N := 1) rfl ?_); refine box_event ?hg (N := 1) ?hd (cs := #[.slice A0_0 l0_0.length c0_0, .slice A0_1 l0_1.length c0_1, .slice A0_2 l0_2.length c0_2]) (t := 37) ?hr ?_; (case hd => rfl); (case hg => rfl); (case hr => first | (go_simp; done) | (go_simp; rfl)); intro gb131 hg w3 hbox hb; have n0_ := Aside0.mk (below_step (by repeat (first | (with_reducible first | exact HB.out | apply below_alloc | apply pw_below_drewN | apply below_drew1) | exact HB.out)) hb); have n1_ := Aside0.mk (hbox); have n2_ := Aside0.mk ((by rw [hg]; exact (below_size (by repeat (first | (with_reducible first | exact HB.out | apply below_alloc | apply pw_below_drewN | apply below_drew1) | exact HB.out))) : w.heap.size ≤ gb131)); have n3_ := Aside0.mk ((by rw [hg]; exact (below_size (by repeat (first | (with_reducible first | exact HB.out | apply below_alloc | apply pw_below_drewN | apply below_drew1) | exact HB.out))) : w.heap.size ≤ gb131)); clear HB; have HB := n0_; have BK131 := n1_; have GW131 := n2_; have GE131 := n3_; clear n0_ n1_ n2_ n3_; clear hb hbox hg; have hcz4_0 : w3.cell? ⟨gb131, 0, none⟩ = some (.slice A0_0 l0_0.length c0_0) := (blk_cell BK131.out 0).trans rfl; have hcz4_1 : w3.cell? ⟨gb131, 1, none⟩ = some (.slice A0_1 l0_1.length c0_1) := (blk_cell BK131.out 1).trans rfl; have hcz4_2 : w3.cell? ⟨gb131, 2, none⟩ = some (.slice A0_2 l0_2.length c0_2) := (blk_cell BK131.out 2).trans rfl; have hfz4_0 := blk_frozen BK131.out 0; have hfz4_1 := blk_frozen BK131.out 1; have hfz4_2 := blk_frozen BK131.out 2))
    repeat (go_quiet (first | ((with_reducible refine gate_dst (N := 1) rfl ?_); refine box_event ?hg (N := 1) ?hd (cs := #[.slice A0_0 l0_0.length c0_0, .slice A0_1 l0_1.length c0_1, .slice A0_2 l0_2.length c0_2]) (t := 37) ?hr ?_; (case hd => rfl); (case hg => rfl); (case hr => first | (go_simp; done) | (go_simp; rfl)); intro gb131 hg w3 hbox hb; have n0_ := Aside0.mk (below_step (by repeat (first | (with_reducible first | exact HB.out | apply below_alloc | apply pw_below_drewN | apply below_drew1) | exact HB.out)) hb); have n1_ := Aside0.mk (hbox); have n2_ := Aside0.mk ((by rw [hg]; exact (below_size (by repeat (first | (with_reducible first | exact HB.out | apply below_alloc | apply pw_below_drewN | apply below_drew1) | exact HB.out))) : w.heap.size ≤ gb131)); have n3_ := Aside0.mk ((by rw [hg]; exact (below_size (by repeat (first | (with_reducible first | exact HB.out | apply below_alloc | apply pw_below_drewN | apply below_drew1) | exact HB.out))) : w.heap.size ≤ gb131)); clear HB; have HB := n0_; have BK131 := n1_; have GW131 := n2_; have GE131 := n3_; clear n0_ n1_ n2_ n3_; clear hb hbox hg; have hcz4_0 : w3.cell? ⟨gb131, 0, none⟩ = some (.slice A0_0 l0_0.length c0_0) := (blk_cell BK131.out 0).trans rfl; have hcz4_1 : w3.cell? ⟨gb131, 1, none⟩ = some (.slice A0_1 l0_1.length c0_1) := (blk_cell BK131.out 1).trans rfl; have hcz4_2 : w3.cell? ⟨gb131, 2, none⟩ = some (.slice A0_2 l0_2.length c0_2) := (blk_cell BK131.out 2).trans rfl; have hfz4_0 := blk_frozen BK131.out 0; have hfz4_1 := blk_frozen BK131.out 1; have hfz4_2 := blk_frozen BK131.out 2)); try go_wp2_with (first | ((with_reducible refine gate_dst (N := 1) rfl ?_); refine box_event ?hg (N := 1) ?hd (cs := #[.slice A0_0 l0_0.length c0_0, .slice A0_1 l0_1.length c0_1, .slice A0_2 l0_2.length c0_2]) (t := 37) ?hr ?_; (case hd => rfl); (case hg => rfl); (case hr => first | (go_simp; done) | (go_simp; rfl)); intro gb131 hg w3 hbox hb; have n0_ := Aside0.mk (below_step (by repeat (first | (with_reducible first | exact HB.out | apply below_alloc | apply pw_below_drewN | apply below_drew1) | exact HB.out)) hb); have n1_ := Aside0.mk (hbox); have n2_ := Aside0.mk ((by rw [hg]; exact (below_size (by repeat (first | (with_reducible first | exact HB.out | apply below_alloc | apply pw_below_drewN | apply below_drew1) | exact HB.out))) : w.heap.size ≤ gb131)); have n3_ := Aside0.mk ((by rw [hg]; exact (below_size (by repeat (first | (with_reducible first | exact HB.out | apply below_alloc | apply pw_below_drewN | apply below_drew1) | exact HB.out))) : w.heap.size ≤ gb131)); clear HB; have HB := n0_; have BK131 := n1_; have GW131 := n2_; have GE131 := n3_; clear n0_ n1_ n2_ n3_; clear hb hbox hg; have hcz4_0 : w3.cell? ⟨gb131, 0, none⟩ = some (.slice A0_0 l0_0.length c0_0) := (blk_cell BK131.out 0).trans rfl; have hcz4_1 : w3.cell? ⟨gb131, 1, none⟩ = some (.slice A0_1 l0_1.length c0_1) := (blk_cell BK131.out 1).trans rfl; have hcz4_2 : w3.cell? ⟨gb131, 2, none⟩ = some (.slice A0_2 l0_2.length c0_2) := (blk_cell BK131.out 2).trans rfl; have hfz4_0 := blk_frozen BK131.out 0; have hfz4_1 := blk_frozen BK131.out 1; have hfz4_2 := blk_frozen BK131.out 2)))
    go_loopg [4] k (fun kq v4 w' => ∃ (x4_1 : Int), v4 = .int .i64 x4_1 ∧ Aside0 (mapmakerref46_Check.l0 kq (l0_0.length : Int) x4_1 l0_0 l0_1 l0_2 = some r) ∧ Aside0 (kq ≤ k) ∧ Aside0 (w'.heap[gb131]? = some (.cells #[(.slice A0_0 l0_0.length c0_0), (.slice A0_1 l0_1.length c0_1), (.slice A0_2 l0_2.length c0_2)] 37 (0, 0))) ∧ Aside0 (Below w.heap.size w w'))
    case atStart => exact ⟨(1), (by first | rfl | (simp; done) | (simp [*]; done)), H', ⟨Nat.le_refl _⟩, ⟨by (with_reducible repeat (first | refine blk_drewN ?_ _ | refine blk_drew ?_ | refine blk_alloc ?_ _)); exact BK131.out⟩, ⟨by repeat (first | (with_reducible first | exact HB.out | apply below_alloc | apply pw_below_drewN | apply below_drew1 | refine below_set ?_ GE131.out) | exact HB.out)⟩⟩
    case round =>
      clear H'
      try clear c2
      try clear c2b0
      try clear c2b1
      try clear c2b2
      try clear p2
      try clear hcz4_0
      try clear hcz4_1
      try clear hcz4_2
      try clear hfz4_0
      try clear hfz4_1
      try clear hfz4_2
      obtain ⟨x4_1, rfl, HA, HK1, BK131, HB⟩ := hrel
      cases gk with
      | zero => exact absurd HA.out (by simp [mapmakerref46_Check.l0])
      | succ k1 =>
        have H := HA.out
        clear HA
        simp only [mapmakerref46_Check.l0] at H
        by_cases c5 : x4_1 < (l0_0.length : Int)
        · rw [if_pos c5] at H
          have c5b0 : decide (x4_1 < (l0_0.length : Int)) = true := decide_eq_true c5
          clear c5
          obtain ⟨ji6, hji6⟩ : ∃ j_ : Int, (wrap64 (x4_1 - 1)) = j_ := ⟨_, rfl⟩
          replace H : (if 0 ≤ (ji6) then (if (ji6) < (l0_0.length : Int) then (if 0 ≤ x4_1 then (if x4_1 < (l0_0.length : Int) then (if (rd l0_0 (ji6)) ≥ (rd l0_0 x4_1) then (some 6) else (mapmakerref46_Check.l0 k1 (l0_0.length : Int) (wrap64 (x4_1 + 1)) l0_0 l0_1 l0_2)) else (none)) else (none)) else (none)) else (none)) = some r := by first | (rw [hji6] at H; exact H) | (simp only [hji6] at H ⊢; exact H)
          have hji6w : (IntKind.i64.wrap (x4_1 - 1)) = ji6 := (i64_w _).trans hji6
          by_cases c7 : 0 ≤ (ji6)
          · rw [if_pos c7] at H
            have c7b0 : decide (0 ≤ (ji6)) = true := decide_eq_true c7
            clear c7
            by_cases c8 : (ji6) < (l0_0.length : Int)
            · rw [if_pos c8] at H
              have c8b0 : decide ((ji6) < (l0_0.length : Int)) = true := decide_eq_true c8
              clear c8
              by_cases c9 : 0 ≤ x4_1
              · rw [if_pos c9] at H
                have c9b0 : decide (0 ≤ x4_1) = true := decide_eq_true c9
                clear c9
                by_cases c10 : x4_1 < (l0_0.length : Int)
                · rw [if_pos c10] at H
                  have c10b0 : decide (x4_1 < (l0_0.length : Int)) = true := decide_eq_true c10
                  clear c10
                  by_cases c11 : (rd l0_0 (ji6)) ≥ (rd l0_0 x4_1)
                  · rw [if_pos c11] at H
                    have c11b0 : decide ((rd l0_0 x4_1) ≤ (rd l0_0 (ji6))) = true := decide_eq_true c11
                    clear c11
                    obtain rfl := Option.some.inj H
                    have hcz12_0 : wr.cell? ⟨gb131, 0, none⟩ = some (.slice A0_0 l0_0.length c0_0) := (blk_cell BK131.out 0).trans rfl
                    have hcz12_1 : wr.cell? ⟨gb131, 1, none⟩ = some (.slice A0_1 l0_1.length c0_1) := (blk_cell BK131.out 1).trans rfl
                    have hcz12_2 : wr.cell? ⟨gb131, 2, none⟩ = some (.slice A0_2 l0_2.length c0_2) := (blk_cell BK131.out 2).trans rfl
                    have hfz12_0 := blk_frozen BK131.out 0
                    have hfz12_1 := blk_frozen BK131.out 1
                    have hfz12_2 := blk_frozen BK131.out 2
                    have p132 : 0 ≤ ((ji6) : Int) := of_decide_eq_true (by first | (with_reducible assumption) | assumption)
                    have q132 : (ji6) < (l0_0.length : Int) := of_decide_eq_true (by first | (with_reducible assumption) | assumption)
                    obtain ⟨ad132, e132, hx132_0⟩ := Kd.at_int HR0_0.out (ji6) p132 q132
                    cases e132
                    replace hx132_0 := (HB.out.cell (World.block_lt_of_cell? w _ hx132_0)).trans hx132_0
                    replace p132 := eq_true p132
                    replace q132 := eq_true q132
                    have p133 : 0 ≤ (x4_1 : Int) := of_decide_eq_true (by first | (with_reducible assumption) | assumption)
                    have q133 : x4_1 < (l0_0.length : Int) := of_decide_eq_true (by first | (with_reducible assumption) | assumption)
                    obtain ⟨ad133, e133, hx133_0⟩ := Kd.at_int HR0_0.out x4_1 p133 q133
                    obtain rfl : ad132 = ad133 := (by injection e133)
                    replace hx133_0 := (HB.out.cell (World.block_lt_of_cell? w _ hx133_0)).trans hx133_0
                    replace p133 := eq_true p133
                    replace q133 := eq_true q133
                    go_wp2
                    repeat (go_quiet (fail); try go_wp2)
                    go_ret
                    exact ⟨by first | rfl | (simp [errW_none, errW_some] <;> rfl) | (simp only [← hji6]; first | rfl | (simp [errW_none, errW_some] <;> rfl)) | (simp [*, errW_none, errW_some] <;> rfl), by repeat (first | (with_reducible first | exact HB.out | apply below_alloc | apply pw_below_drewN | apply below_drew1 | refine below_set ?_ GE131.out) | exact HB.out)⟩
                  · rw [if_neg c11] at H
                    have c11b0 : decide ((rd l0_0 x4_1) ≤ (rd l0_0 (ji6))) = false := decide_eq_false c11
                    clear c11
                    have H' := Aside0.mk H
                    clear H
                    have hcz13_0 : wr.cell? ⟨gb131, 0, none⟩ = some (.slice A0_0 l0_0.length c0_0) := (blk_cell BK131.out 0).trans rfl
                    have hcz13_1 : wr.cell? ⟨gb131, 1, none⟩ = some (.slice A0_1 l0_1.length c0_1) := (blk_cell BK131.out 1).trans rfl
                    have hcz13_2 : wr.cell? ⟨gb131, 2, none⟩ = some (.slice A0_2 l0_2.length c0_2) := (blk_cell BK131.out 2).trans rfl
                    have hfz13_0 := blk_frozen BK131.out 0
                    have hfz13_1 := blk_frozen BK131.out 1
                    have hfz13_2 := blk_frozen BK131.out 2
                    have p132 : 0 ≤ ((ji6) : Int) := of_decide_eq_true (by first | (with_reducible assumption) | assumption)
                    have q132 : (ji6) < (l0_0.length : Int) := of_decide_eq_true (by first | (with_reducible assumption) | assumption)
                    obtain ⟨ad132, e132, hx132_0⟩ := Kd.at_int HR0_0.out (ji6) p132 q132
                    cases e132
                    replace hx132_0 := (HB.out.cell (World.block_lt_of_cell? w _ hx132_0)).trans hx132_0
                    replace p132 := eq_true p132
                    replace q132 := eq_true q132
                    have p133 : 0 ≤ (x4_1 : Int) := of_decide_eq_true (by first | (with_reducible assumption) | assumption)
                    have q133 : x4_1 < (l0_0.length : Int) := of_decide_eq_true (by first | (with_reducible assumption) | assumption)
                    obtain ⟨ad133, e133, hx133_0⟩ := Kd.at_int HR0_0.out x4_1 p133 q133
                    obtain rfl : ad132 = ad133 := (by injection e133)
                    replace hx133_0 := (HB.out.cell (World.block_lt_of_cell? w _ hx133_0)).trans hx133_0
                    replace p133 := eq_true p133
                    replace q133 := eq_true q133
                    go_wp2
                    repeat (go_quiet (fail); try go_wp2)
                    go_roundg k1
                    case measure => have := HK1.out; omega
                    case rel => exact ⟨(wrap64 (x4_1 + 1)), (by first | rfl | (simp; done) | (simp [*]; done)), H', ⟨by have := HK1.out; omega⟩, ⟨by (with_reducible repeat (first | refine blk_drewN ?_ _ | refine blk_drew ?_ | refine blk_alloc ?_ _)); exact BK131.out⟩, ⟨by repeat (first | (with_reducible first | exact HB.out | apply below_alloc | apply pw_below_drewN | apply below_drew1 | refine below_set ?_ GE131.out) | exact HB.out)⟩⟩
                · rw [if_neg c10] at H
                  exact absurd H (by simp)
              · rw [if_neg c9] at H
                exact absurd H (by simp)
            · rw [if_neg c8] at H
              exact absurd H (by simp)
          · rw [if_neg c7] at H
            exact absurd H (by simp)
        · rw [if_neg c5] at H
          have c5b0 : decide (x4_1 < (l0_0.length : Int)) = false := decide_eq_false c5
          clear c5
          have H' := Aside0.mk H
          clear H
          go_wp2
          repeat (go_quiet (fail); try go_wp2)
          go_loopg [5] k1 (fun kq v5 w' => ∃ (x5_2 : Int), v5 = .int .i64 x5_2 ∧ Aside0 (mapmakerref46_Check.l1 kq (l0_0.length : Int) x5_2 l0_0 l0_1 l0_2 = some r) ∧ Aside0 (kq ≤ k1) ∧ Aside0 (w'.heap[gb131]? = some (.cells #[(.slice A0_0 l0_0.length c0_0), (.slice A0_1 l0_1.length c0_1), (.slice A0_2 l0_2.length c0_2)] 37 (0, 0))) ∧ Aside0 (Below w.heap.size w w'))
          case atStart => exact ⟨(0), (by first | rfl | (simp; done) | (simp [*]; done)), H', ⟨Nat.le_refl _⟩, ⟨by (with_reducible repeat (first | refine blk_drewN ?_ _ | refine blk_drew ?_ | refine blk_alloc ?_ _)); exact BK131.out⟩, ⟨by repeat (first | (with_reducible first | exact HB.out | apply below_alloc | apply pw_below_drewN | apply below_drew1 | refine below_set ?_ GE131.out) | exact HB.out)⟩⟩
          case round =>
            clear H'
            try clear c1
            try clear p1
            try clear q1
            try clear hx1
            try clear c2
            try clear c2b0
            try clear c2b1
            try clear c2b2
            try clear p2
            try clear c5
            try clear c5b0
            try clear p6
            try clear c7
            try clear c7b0
            try clear c8
            try clear c8b0
            try clear c9
            try clear c9b0
            try clear c10
            try clear c10b0
            try clear c11
            try clear c11b0
            try clear p13
            try clear q13
            try clear hx13
            try clear hcz12_0
            try clear hcz12_1
            try clear hcz12_2
            try clear hcz13_0
            try clear hcz13_1
            try clear hcz13_2
            try clear hcz4_0
            try clear hcz4_1
            try clear hcz4_2
            try clear hfz12_0
            try clear hfz12_1
            try clear hfz12_2
            try clear hfz13_0
            try clear hfz13_1
            try clear hfz13_2
            try clear hfz4_0
            try clear hfz4_1
            try clear hfz4_2
            try clear hx132_0
            try clear hx133_0
            try clear p132
            try clear p133
            try clear p2
            try clear q132
            try clear q133
            obtain ⟨x5_2, rfl, HA, HK2, BK131, HB⟩ := hrel
            cases gk with
            | zero => exact absurd HA.out (by simp [mapmakerref46_Check.l1])
            | succ k2 =>
              have H := HA.out
              clear HA
              simp only [mapmakerref46_Check.l1] at H
              by_cases c14 : x5_2 < (l0_2.length : Int)
              · rw [if_pos c14] at H
                have c14b0 : decide (x5_2 < (l0_2.length : Int)) = true := decide_eq_true c14
                clear c14
                by_cases c15 : 0 ≤ x5_2
                · rw [if_pos c15] at H
                  have c15b0 : decide (0 ≤ x5_2) = true := decide_eq_true c15
                  clear c15
                  have HC16 := Aside0.mk H
                  clear H
                  have hcz17_0 : wr.cell? ⟨gb131, 0, none⟩ = some (.slice A0_0 l0_0.length c0_0) := (blk_cell BK131.out 0).trans rfl
                  have hcz17_1 : wr.cell? ⟨gb131, 1, none⟩ = some (.slice A0_1 l0_1.length c0_1) := (blk_cell BK131.out 1).trans rfl
                  have hcz17_2 : wr.cell? ⟨gb131, 2, none⟩ = some (.slice A0_2 l0_2.length c0_2) := (blk_cell BK131.out 2).trans rfl
                  have hfz17_0 := blk_frozen BK131.out 0
                  have hfz17_1 := blk_frozen BK131.out 1
                  have hfz17_2 := blk_frozen BK131.out 2
                  have p134 : 0 ≤ (x5_2 : Int) := of_decide_eq_true (by first | (with_reducible assumption) | assumption)
                  have q134 : x5_2 < (l0_2.length : Int) := of_decide_eq_true (by first | (with_reducible assumption) | assumption)
                  obtain ⟨ad134, A134_5, c134_5, e134, hx134_0, hx134_1, hx134_2, hx134_3, hx134_4, hx134_5, hx134_6, hx134_7, hl134_5, hi134_5⟩ := at_T58 HR0_2.out x5_2 p134 q134
                  cases e134
                  replace hx134_0 := (HB.out.cell (World.block_lt_of_cell? w _ hx134_0)).trans hx134_0
                  replace hx134_1 := (HB.out.cell (World.block_lt_of_cell? w _ hx134_1)).trans hx134_1
                  replace hx134_2 := (HB.out.cell (World.block_lt_of_cell? w _ hx134_2)).trans hx134_2
                  replace hx134_3 := (HB.out.cell (World.block_lt_of_cell? w _ hx134_3)).trans hx134_3
                  replace hx134_4 := (HB.out.cell (World.block_lt_of_cell? w _ hx134_4)).trans hx134_4
                  replace hx134_5 := (HB.out.cell (World.block_lt_of_cell? w _ hx134_5)).trans hx134_5
                  replace hx134_6 := (HB.out.cell (World.block_lt_of_cell? w _ hx134_6)).trans hx134_6
                  replace hx134_7 := (HB.out.cell (World.block_lt_of_cell? w _ hx134_7)).trans hx134_7
                  have HR134_5 := Aside0.mk hi134_5
                  have HC134_5 := Aside0.mk hl134_5
                  clear hi134_5 hl134_5
                  replace p134 := eq_true p134
                  replace q134 := eq_true q134
                  go_upto_region 13 with (first | ((with_reducible refine gate_dst (N := 6) rfl ?_); refine box_event ?hg (N := 6) ?hd (cs := #[.int .i64 0, .int .i64 0, .int .i64 0, .int .i64 0, .int .i64 0, .slice none 0 0, .int .i64 0, .int .i64 0]) (t := 58) ?hr ?_; (case hd => rfl); (case hg => rfl); (case hr => first | (go_simp; done) | (go_simp; rfl)); intro gb135 hg w18 hbox hb; have n0_ := Aside0.mk (blk_below (g := gb131) (o := .cells #[.slice A0_0 l0_0.length c0_0, .slice A0_1 l0_1.length c0_1, .slice (some ad134) l0_2.length c0_2] 37 (0, 0)) (by (with_reducible repeat (first | refine blk_drewN ?_ _ | refine blk_drew ?_ | refine blk_alloc ?_ _)); exact BK131.out) hb); have n1_ := Aside0.mk (below_step (by repeat (first | (with_reducible first | exact HB.out | apply below_alloc | apply pw_below_drewN | apply below_drew1 | refine below_set ?_ GE131.out) | exact HB.out)) hb); have n2_ := Aside0.mk (hbox); have n3_ := Aside0.mk ((by rw [hg]; exact (below_size (by repeat (first | (with_reducible first | exact HB.out | apply below_alloc | apply pw_below_drewN | apply below_drew1 | refine below_set ?_ GE131.out) | exact HB.out))) : w.heap.size ≤ gb135)); have n4_ := Aside0.mk ((by rw [hg]; exact (below_size (by repeat (first | (with_reducible first | exact HB.out | apply below_alloc | apply pw_below_drewN | apply below_drew1 | refine below_set ?_ GE131.out) | exact HB.out))) : w.heap.size ≤ gb135)); have n5_ := Aside0.mk ((by rw [hg]; exact Nat.ne_of_lt (blk_lt (g := gb131) (o := .cells #[.slice A0_0 l0_0.length c0_0, .slice A0_1 l0_1.length c0_1, .slice (some ad134) l0_2.length c0_2] 37 (0, 0)) (by (with_reducible repeat (first | refine blk_drewN ?_ _ | refine blk_drew ?_ | refine blk_alloc ?_ _)); exact BK131.out)) : gb131 ≠ gb135)); have n6_ := Aside0.mk ((by rw [hg]; exact Nat.ne_of_gt (blk_lt (g := gb131) (o := .cells #[.slice A0_0 l0_0.length c0_0, .slice A0_1 l0_1.length c0_1, .slice (some ad134) l0_2.length c0_2] 37 (0, 0)) (by (with_reducible repeat (first | refine blk_drewN ?_ _ | refine blk_drew ?_ | refine blk_alloc ?_ _)); exact BK131.out)) : gb135 ≠ gb131)); clear BK131; clear HB; have BK131 := n0_; have HB := n1_; have BK135 := n2_; have GW135 := n3_; have GE135 := n4_; have NB131_135 := n5_; have NB135_131 := n6_; clear n0_ n1_ n2_ n3_ n4_ n5_ n6_; clear hb hbox hg; have hnb19 := NB135_131.out; have hnc19 := NB131_135.out; have hcz20_0 : w18.cell? ⟨gb135, 0, none⟩ = some (.int .i64 0) := (blk_cell BK135.out 0).trans rfl; have hcz20_1 : w18.cell? ⟨gb135, 1, none⟩ = some (.int .i64 0) := (blk_cell BK135.out 1).trans rfl; have hcz20_2 : w18.cell? ⟨gb135, 2, none⟩ = some (.int .i64 0) := (blk_cell BK135.out 2).trans rfl; have hcz20_3 : w18.cell? ⟨gb135, 3, none⟩ = some (.int .i64 0) := (blk_cell BK135.out 3).trans rfl; have hcz20_4 : w18.cell? ⟨gb135, 4, none⟩ = some (.int .i64 0) := (blk_cell BK135.out 4).trans rfl; have hcz20_5 : w18.cell? ⟨gb135, 5, none⟩ = some (.slice none 0 0) := (blk_cell BK135.out 5).trans rfl; have hcz20_6 : w18.cell? ⟨gb135, 6, none⟩ = some (.int .i64 0) := (blk_cell BK135.out 6).trans rfl; have hcz20_7 : w18.cell? ⟨gb135, 7, none⟩ = some (.int .i64 0) := (blk_cell BK135.out 7).trans rfl; have hfz20_0 := blk_frozen BK135.out 0; have hfz20_1 := blk_frozen BK135.out 1; have hfz20_2 := blk_frozen BK135.out 2; have hfz20_3 := blk_frozen BK135.out 3; have hfz20_4 := blk_frozen BK135.out 4; have hfz20_5 := blk_frozen BK135.out 5; have hfz20_6 := blk_frozen BK135.out 6; have hfz20_7 := blk_frozen BK135.out 7))
                  repeat (go_quiet (first | ((with_reducible refine gate_dst (N := 6) rfl ?_); refine box_event ?hg (N := 6) ?hd (cs := #[.int .i64 0, .int .i64 0, .int .i64 0, .int .i64 0, .int .i64 0, .slice none 0 0, .int .i64 0, .int .i64 0]) (t := 58) ?hr ?_; (case hd => rfl); (case hg => rfl); (case hr => first | (go_simp; done) | (go_simp; rfl)); intro gb135 hg w18 hbox hb; have n0_ := Aside0.mk (blk_below (g := gb131) (o := .cells #[.slice A0_0 l0_0.length c0_0, .slice A0_1 l0_1.length c0_1, .slice (some ad134) l0_2.length c0_2] 37 (0, 0)) (by (with_reducible repeat (first | refine blk_drewN ?_ _ | refine blk_drew ?_ | refine blk_alloc ?_ _)); exact BK131.out) hb); have n1_ := Aside0.mk (below_step (by repeat (first | (with_reducible first | exact HB.out | apply below_alloc | apply pw_below_drewN | apply below_drew1 | refine below_set ?_ GE131.out) | exact HB.out)) hb); have n2_ := Aside0.mk (hbox); have n3_ := Aside0.mk ((by rw [hg]; exact (below_size (by repeat (first | (with_reducible first | exact HB.out | apply below_alloc | apply pw_below_drewN | apply below_drew1 | refine below_set ?_ GE131.out) | exact HB.out))) : w.heap.size ≤ gb135)); have n4_ := Aside0.mk ((by rw [hg]; exact (below_size (by repeat (first | (with_reducible first | exact HB.out | apply below_alloc | apply pw_below_drewN | apply below_drew1 | refine below_set ?_ GE131.out) | exact HB.out))) : w.heap.size ≤ gb135)); have n5_ := Aside0.mk ((by rw [hg]; exact Nat.ne_of_lt (blk_lt (g := gb131) (o := .cells #[.slice A0_0 l0_0.length c0_0, .slice A0_1 l0_1.length c0_1, .slice (some ad134) l0_2.length c0_2] 37 (0, 0)) (by (with_reducible repeat (first | refine blk_drewN ?_ _ | refine blk_drew ?_ | refine blk_alloc ?_ _)); exact BK131.out)) : gb131 ≠ gb135)); have n6_ := Aside0.mk ((by rw [hg]; exact Nat.ne_of_gt (blk_lt (g := gb131) (o := .cells #[.slice A0_0 l0_0.length c0_0, .slice A0_1 l0_1.length c0_1, .slice (some ad134) l0_2.length c0_2] 37 (0, 0)) (by (with_reducible repeat (first | refine blk_drewN ?_ _ | refine blk_drew ?_ | refine blk_alloc ?_ _)); exact BK131.out)) : gb135 ≠ gb131)); clear BK131; clear HB; have BK131 := n0_; have HB := n1_; have BK135 := n2_; have GW135 := n3_; have GE135 := n4_; have NB131_135 := n5_; have NB135_131 := n6_; clear n0_ n1_ n2_ n3_ n4_ n5_ n6_; clear hb hbox hg; have hnb19 := NB135_131.out; have hnc19 := NB131_135.out; have hcz20_0 : w18.cell? ⟨gb135, 0, none⟩ = some (.int .i64 0) := (blk_cell BK135.out 0).trans rfl; have hcz20_1 : w18.cell? ⟨gb135, 1, none⟩ = some (.int .i64 0) := (blk_cell BK135.out 1).trans rfl; have hcz20_2 : w18.cell? ⟨gb135, 2, none⟩ = some (.int .i64 0) := (blk_cell BK135.out 2).trans rfl; have hcz20_3 : w18.cell? ⟨gb135, 3, none⟩ = some (.int .i64 0) := (blk_cell BK135.out 3).trans rfl; have hcz20_4 : w18.cell? ⟨gb135, 4, none⟩ = some (.int .i64 0) := (blk_cell BK135.out 4).trans rfl; have hcz20_5 : w18.cell? ⟨gb135, 5, none⟩ = some (.slice none 0 0) := (blk_cell BK135.out 5).trans rfl; have hcz20_6 : w18.cell? ⟨gb135, 6, none⟩ = some (.int .i64 0) := (blk_cell BK135.out 6).trans rfl; have hcz20_7 : w18.cell? ⟨gb135, 7, none⟩ = some (.int .i64 0) := (blk_cell BK135.out 7).trans rfl; have hfz20_0 := blk_frozen BK135.out 0; have hfz20_1 := blk_frozen BK135.out 1; have hfz20_2 := blk_frozen BK135.out 2; have hfz20_3 := blk_frozen BK135.out 3; have hfz20_4 := blk_frozen BK135.out 4; have hfz20_5 := blk_frozen BK135.out 5; have hfz20_6 := blk_frozen BK135.out 6; have hfz20_7 := blk_frozen BK135.out 7)); go_upto_region 13 with (first | ((with_reducible refine gate_dst (N := 6) rfl ?_); refine box_event ?hg (N := 6) ?hd (cs := #[.int .i64 0, .int .i64 0, .int .i64 0, .int .i64 0, .int .i64 0, .slice none 0 0, .int .i64 0, .int .i64 0]) (t := 58) ?hr ?_; (case hd => rfl); (case hg => rfl); (case hr => first | (go_simp; done) | (go_simp; rfl)); intro gb135 hg w18 hbox hb; have n0_ := Aside0.mk (blk_below (g := gb131) (o := .cells #[.slice A0_0 l0_0.length c0_0, .slice A0_1 l0_1.length c0_1, .slice (some ad134) l0_2.length c0_2] 37 (0, 0)) (by (with_reducible repeat (first | refine blk_drewN ?_ _ | refine blk_drew ?_ | refine blk_alloc ?_ _)); exact BK131.out) hb); have n1_ := Aside0.mk (below_step (by repeat (first | (with_reducible first | exact HB.out | apply below_alloc | apply pw_below_drewN | apply below_drew1 | refine below_set ?_ GE131.out) | exact HB.out)) hb); have n2_ := Aside0.mk (hbox); have n3_ := Aside0.mk ((by rw [hg]; exact (below_size (by repeat (first | (with_reducible first | exact HB.out | apply below_alloc | apply pw_below_drewN | apply below_drew1 | refine below_set ?_ GE131.out) | exact HB.out))) : w.heap.size ≤ gb135)); have n4_ := Aside0.mk ((by rw [hg]; exact (below_size (by repeat (first | (with_reducible first | exact HB.out | apply below_alloc | apply pw_below_drewN | apply below_drew1 | refine below_set ?_ GE131.out) | exact HB.out))) : w.heap.size ≤ gb135)); have n5_ := Aside0.mk ((by rw [hg]; exact Nat.ne_of_lt (blk_lt (g := gb131) (o := .cells #[.slice A0_0 l0_0.length c0_0, .slice A0_1 l0_1.length c0_1, .slice (some ad134) l0_2.length c0_2] 37 (0, 0)) (by (with_reducible repeat (first | refine blk_drewN ?_ _ | refine blk_drew ?_ | refine blk_alloc ?_ _)); exact BK131.out)) : gb131 ≠ gb135)); have n6_ := Aside0.mk ((by rw [hg]; exact Nat.ne_of_gt (blk_lt (g := gb131) (o := .cells #[.slice A0_0 l0_0.length c0_0, .slice A0_1 l0_1.length c0_1, .slice (some ad134) l0_2.length c0_2] 37 (0, 0)) (by (with_reducible repeat (first | refine blk_drewN ?_ _ | refine blk_drew ?_ | refine blk_alloc ?_ _)); exact BK131.out)) : gb135 ≠ gb131)); clear BK131; clear HB; have BK131 := n0_; have HB := n1_; have BK135 := n2_; have GW135 := n3_; have GE135 := n4_; have NB131_135 := n5_; have NB135_131 := n6_; clear n0_ n1_ n2_ n3_ n4_ n5_ n6_; clear hb hbox hg; have hnb19 := NB135_131.out; have hnc19 := NB131_135.out; have hcz20_0 : w18.cell? ⟨gb135, 0, none⟩ = some (.int .i64 0) := (blk_cell BK135.out 0).trans rfl; have hcz20_1 : w18.cell? ⟨gb135, 1, none⟩ = some (.int .i64 0) := (blk_cell BK135.out 1).trans rfl; have hcz20_2 : w18.cell? ⟨gb135, 2, none⟩ = some (.int .i64 0) := (blk_cell BK135.out 2).trans rfl; have hcz20_3 : w18.cell? ⟨gb135, 3, none⟩ = some (.int .i64 0) := (blk_cell BK135.out 3).trans rfl; have hcz20_4 : w18.cell? ⟨gb135, 4, none⟩ = some (.int .i64 0) := (blk_cell BK135.out 4).trans rfl; have hcz20_5 : w18.cell? ⟨gb135, 5, none⟩ = some (.slice none 0 0) := (blk_cell BK135.out 5).trans rfl; have hcz20_6 : w18.cell? ⟨gb135, 6, none⟩ = some (.int .i64 0) := (blk_cell BK135.out 6).trans rfl; have hcz20_7 : w18.cell? ⟨gb135, 7, none⟩ = some (.int .i64 0) := (blk_cell BK135.out 7).trans rfl; have hfz20_0 := blk_frozen BK135.out 0; have hfz20_1 := blk_frozen BK135.out 1; have hfz20_2 := blk_frozen BK135.out 2; have hfz20_3 := blk_frozen BK135.out 3; have hfz20_4 := blk_frozen BK135.out 4; have hfz20_5 := blk_frozen BK135.out 5; have hfz20_6 := blk_frozen BK135.out 6; have hfz20_7 := blk_frozen BK135.out 7)))
                  (try simp only [Act.put, List.setIfInBounds_toArray, List.set_cons_zero, List.set_cons_succ])
                  go_cut [94] (fun v94 wc => ∃ (kq : Nat) (x94_15 : Bool), v94 = .bool x94_15 ∧ Aside0 (mapmakerref46_Check.j2 kq (l0_0.length : Int) x5_2 x94_15 l0_0 l0_1 l0_2 ((rd_T58 l0_2 x5_2).f0) ((rd_T58 l0_2 x5_2).f1) ((rd_T58 l0_2 x5_2).f2) ((rd_T58 l0_2 x5_2).f3) ((rd_T58 l0_2 x5_2).f4) ((rd_T58 l0_2 x5_2).f5.f0) ((rd_T58 l0_2 x5_2).f5.f1) ((rd_T58 l0_2 x5_2).f5.f2) = some r) ∧ Aside0 (kq ≤ k2) ∧ Aside0 (wc.heap[gb131]? = some (.cells #[(.slice A0_0 l0_0.length c0_0), (.slice A0_1 l0_1.length c0_1), (.slice (some ad134) l0_2.length c0_2)] 37 (0, 0))) ∧ Aside0 (wc.heap[gb135]? = some (.cells #[.int .i64 ((rd_T58 l0_2 x5_2).f0), .int .i64 ((rd_T58 l0_2 x5_2).f1), .int .i64 ((rd_T58 l0_2 x5_2).f2), .int .i64 ((rd_T58 l0_2 x5_2).f3), .int .i64 ((rd_T58 l0_2 x5_2).f4), (.slice A134_5 ((rd_T58 l0_2 x5_2).f5.f0).length c134_5), .int .i64 ((rd_T58 l0_2 x5_2).f5.f1), .int .i64 ((rd_T58 l0_2 x5_2).f5.f2)] 58 (0, 0))) ∧ Aside0 (Below w.heap.size w wc))
                  case first =>
                    have H := HC16.out
                    clear HC16
                    by_cases c21 : ((rd_T58 l0_2 x5_2).f0) < 0
                    · rw [if_pos c21] at H
                      have c21b0 : decide (((rd_T58 l0_2 x5_2).f0) < 0) = true := decide_eq_true c21
                      clear c21
                      (first | rw [c21b0] | (simp only [i64_w, i32_w]; rw [c21b0]) | skip)
                      have H' := Aside0.mk H
                      clear H
                      have hnb22 := NB135_131.out
                      have hnc22 := NB131_135.out
                      have hcz23_0 : w18.cell? ⟨gb135, 0, none⟩ = some (.int .i64 0) := (blk_cell BK135.out 0).trans rfl
                      have hcz23_1 : w18.cell? ⟨gb135, 1, none⟩ = some (.int .i64 0) := (blk_cell BK135.out 1).trans rfl
                      have hcz23_2 : w18.cell? ⟨gb135, 2, none⟩ = some (.int .i64 0) := (blk_cell BK135.out 2).trans rfl
                      have hcz23_3 : w18.cell? ⟨gb135, 3, none⟩ = some (.int .i64 0) := (blk_cell BK135.out 3).trans rfl
                      have hcz23_4 : w18.cell? ⟨gb135, 4, none⟩ = some (.int .i64 0) := (blk_cell BK135.out 4).trans rfl
                      have hcz23_5 : w18.cell? ⟨gb135, 5, none⟩ = some (.slice none 0 0) := (blk_cell BK135.out 5).trans rfl
                      have hcz23_6 : w18.cell? ⟨gb135, 6, none⟩ = some (.int .i64 0) := (blk_cell BK135.out 6).trans rfl
                      have hcz23_7 : w18.cell? ⟨gb135, 7, none⟩ = some (.int .i64 0) := (blk_cell BK135.out 7).trans rfl
                      have hfz23_0 := blk_frozen BK135.out 0
                      have hfz23_1 := blk_frozen BK135.out 1
                      have hfz23_2 := blk_frozen BK135.out 2
                      have hfz23_3 := blk_frozen BK135.out 3
                      have hfz23_4 := blk_frozen BK135.out 4
                      have hfz23_5 := blk_frozen BK135.out 5
                      have hfz23_6 := blk_frozen BK135.out 6
                      have hfz23_7 := blk_frozen BK135.out 7
                      go_wp2
                      repeat (go_quiet (fail); try go_wp2)
                      go_meet
                      case rel => exact ⟨_, (true), (by first | rfl | (simp; done) | (simp [*]; done)), H', ⟨by have := HK1.out; have := HK2.out; first | omega | exact Nat.le_refl _⟩, ⟨by (with_reducible repeat (first | refine blk_drewN ?_ _ | refine blk_drew ?_ | refine blk_alloc ?_ _)); refine blk_far ?_ NB131_135.out _; (with_reducible repeat (first | refine blk_drewN ?_ _ | refine blk_drew ?_ | refine blk_alloc ?_ _)); refine blk_far ?_ NB131_135.out _; (with_reducible repeat (first | refine blk_drewN ?_ _ | refine blk_drew ?_ | refine blk_alloc ?_ _)); refine blk_far ?_ NB131_135.out _; (with_reducible repeat (first | refine blk_drewN ?_ _ | refine blk_drew ?_ | refine blk_alloc ?_ _)); refine blk_far ?_ NB131_135.out _; (with_reducible repeat (first | refine blk_drewN ?_ _ | refine blk_drew ?_ | refine blk_alloc ?_ _)); refine blk_far ?_ NB131_135.out _; (with_reducible repeat (first | refine blk_drewN ?_ _ | refine blk_drew ?_ | refine blk_alloc ?_ _)); refine blk_far ?_ NB131_135.out _; (with_reducible repeat (first | refine blk_drewN ?_ _ | refine blk_drew ?_ | refine blk_alloc ?_ _)); refine blk_far ?_ NB131_135.out _; (with_reducible repeat (first | refine blk_drewN ?_ _ | refine blk_drew ?_ | refine blk_alloc ?_ _)); refine blk_far ?_ NB131_135.out _; (with_reducible repeat (first | refine blk_drewN ?_ _ | refine blk_drew ?_ | refine blk_alloc ?_ _)); exact BK131.out⟩, ⟨by (with_reducible repeat (first | refine blk_drewN ?_ _ | refine blk_drew ?_ | refine blk_alloc ?_ _)); refine blk_put (cs := #[.int .i64 ((rd_T58 l0_2 x5_2).f0), .int .i64 ((rd_T58 l0_2 x5_2).f1), .int .i64 ((rd_T58 l0_2 x5_2).f2), .int .i64 ((rd_T58 l0_2 x5_2).f3), .int .i64 ((rd_T58 l0_2 x5_2).f4), .slice A134_5 ((rd_T58 l0_2 x5_2).f5.f0).length c134_5, .int .i64 ((rd_T58 l0_2 x5_2).f5.f1), .int .i64 0]) ?_ 7 _ rfl; (with_reducible repeat (first | refine blk_drewN ?_ _ | refine blk_drew ?_ | refine blk_alloc ?_ _)); refine blk_put (cs := #[.int .i64 ((rd_T58 l0_2 x5_2).f0), .int .i64 ((rd_T58 l0_2 x5_2).f1), .int .i64 ((rd_T58 l0_2 x5_2).f2), .int .i64 ((rd_T58 l0_2 x5_2).f3), .int .i64 ((rd_T58 l0_2 x5_2).f4), .slice A134_5 ((rd_T58 l0_2 x5_2).f5.f0).length c134_5, .int .i64 0, .int .i64 0]) ?_ 6 _ rfl; (with_reducible repeat (first | refine blk_drewN ?_ _ | refine blk_drew ?_ | refine blk_alloc ?_ _)); refine blk_put (cs := #[.int .i64 ((rd_T58 l0_2 x5_2).f0), .int .i64 ((rd_T58 l0_2 x5_2).f1), .int .i64 ((rd_T58 l0_2 x5_2).f2), .int .i64 ((rd_T58 l0_2 x5_2).f3), .int .i64 ((rd_T58 l0_2 x5_2).f4), .slice none 0 0, .int .i64 0, .int .i64 0]) ?_ 5 _ rfl; (with_reducible repeat (first | refine blk_drewN ?_ _ | refine blk_drew ?_ | refine blk_alloc ?_ _)); refine blk_put (cs := #[.int .i64 ((rd_T58 l0_2 x5_2).f0), .int .i64 ((rd_T58 l0_2 x5_2).f1), .int .i64 ((rd_T58 l0_2 x5_2).f2), .int .i64 ((rd_T58 l0_2 x5_2).f3), .int .i64 0, .slice none 0 0, .int .i64 0, .int .i64 0]) ?_ 4 _ rfl; (with_reducible repeat (first | refine blk_drewN ?_ _ | refine blk_drew ?_ | refine blk_alloc ?_ _)); refine blk_put (cs := #[.int .i64 ((rd_T58 l0_2 x5_2).f0), .int .i64 ((rd_T58 l0_2 x5_2).f1), .int .i64 ((rd_T58 l0_2 x5_2).f2), .int .i64 0, .int .i64 0, .slice none 0 0, .int .i64 0, .int .i64 0]) ?_ 3 _ rfl; (with_reducible repeat (first | refine blk_drewN ?_ _ | refine blk_drew ?_ | refine blk_alloc ?_ _)); refine blk_put (cs := #[.int .i64 ((rd_T58 l0_2 x5_2).f0), .int .i64 ((rd_T58 l0_2 x5_2).f1), .int .i64 0, .int .i64 0, .int .i64 0, .slice none 0 0, .int .i64 0, .int .i64 0]) ?_ 2 _ rfl; (with_reducible repeat (first | refine blk_drewN ?_ _ | refine blk_drew ?_ | refine blk_alloc ?_ _)); refine blk_put (cs := #[.int .i64 ((rd_T58 l0_2 x5_2).f0), .int .i64 0, .int .i64 0, .int .i64 0, .int .i64 0, .slice none 0 0, .int .i64 0, .int .i64 0]) ?_ 1 _ rfl; (with_reducible repeat (first | refine blk_drewN ?_ _ | refine blk_drew ?_ | refine blk_alloc ?_ _)); refine blk_put (cs := #[.int .i64 0, .int .i64 0, .int .i64 0, .int .i64 0, .int .i64 0, .slice none 0 0, .int .i64 0, .int .i64 0]) ?_ 0 _ rfl; (with_reducible repeat (first | refine blk_drewN ?_ _ | refine blk_drew ?_ | refine blk_alloc ?_ _)); exact BK135.out⟩, ⟨by repeat (first | (with_reducible first | exact HB.out | apply below_alloc | apply pw_below_drewN | apply below_drew1 | refine below_set ?_ GE131.out | refine below_set ?_ GE135.out) | exact HB.out)⟩⟩
                    · rw [if_neg c21] at H
                      have c21b0 : decide (((rd_T58 l0_2 x5_2).f0) < 0) = false := decide_eq_false c21
                      clear c21
                      (first | rw [c21b0] | (simp only [i64_w, i32_w]; rw [c21b0]) | skip)
                      by_cases c24 : ((rd_T58 l0_2 x5_2).f0) ≥ (l0_0.length : Int)
                      · rw [if_pos c24] at H
                        have c24b0 : decide ((l0_0.length : Int) ≤ ((rd_T58 l0_2 x5_2).f0)) = true := decide_eq_true c24
                        clear c24
                        have H' := Aside0.mk H
                        clear H
                        have hnb25 := NB135_131.out
                        have hnc25 := NB131_135.out
                        have hcz26_0 : w18.cell? ⟨gb135, 0, none⟩ = some (.int .i64 0) := (blk_cell BK135.out 0).trans rfl
                        have hcz26_1 : w18.cell? ⟨gb135, 1, none⟩ = some (.int .i64 0) := (blk_cell BK135.out 1).trans rfl
                        have hcz26_2 : w18.cell? ⟨gb135, 2, none⟩ = some (.int .i64 0) := (blk_cell BK135.out 2).trans rfl
                        have hcz26_3 : w18.cell? ⟨gb135, 3, none⟩ = some (.int .i64 0) := (blk_cell BK135.out 3).trans rfl
                        have hcz26_4 : w18.cell? ⟨gb135, 4, none⟩ = some (.int .i64 0) := (blk_cell BK135.out 4).trans rfl
                        have hcz26_5 : w18.cell? ⟨gb135, 5, none⟩ = some (.slice none 0 0) := (blk_cell BK135.out 5).trans rfl
                        have hcz26_6 : w18.cell? ⟨gb135, 6, none⟩ = some (.int .i64 0) := (blk_cell BK135.out 6).trans rfl
                        have hcz26_7 : w18.cell? ⟨gb135, 7, none⟩ = some (.int .i64 0) := (blk_cell BK135.out 7).trans rfl
                        have hfz26_0 := blk_frozen BK135.out 0
                        have hfz26_1 := blk_frozen BK135.out 1
                        have hfz26_2 := blk_frozen BK135.out 2
                        have hfz26_3 := blk_frozen BK135.out 3
                        have hfz26_4 := blk_frozen BK135.out 4
                        have hfz26_5 := blk_frozen BK135.out 5
                        have hfz26_6 := blk_frozen BK135.out 6
                        have hfz26_7 := blk_frozen BK135.out 7
                        go_wp2
                        repeat (go_quiet (fail); try go_wp2)
                        go_meet
                        case rel => exact ⟨_, (true), (by first | rfl | (simp; done) | (simp [*]; done)), H', ⟨by have := HK1.out; have := HK2.out; first | omega | exact Nat.le_refl _⟩, ⟨by (with_reducible repeat (first | refine blk_drewN ?_ _ | refine blk_drew ?_ | refine blk_alloc ?_ _)); refine blk_far ?_ NB131_135.out _; (with_reducible repeat (first | refine blk_drewN ?_ _ | refine blk_drew ?_ | refine blk_alloc ?_ _)); refine blk_far ?_ NB131_135.out _; (with_reducible repeat (first | refine blk_drewN ?_ _ | refine blk_drew ?_ | refine blk_alloc ?_ _)); refine blk_far ?_ NB131_135.out _; (with_reducible repeat (first | refine blk_drewN ?_ _ | refine blk_drew ?_ | refine blk_alloc ?_ _)); refine blk_far ?_ NB131_135.out _; (with_reducible repeat (first | refine blk_drewN ?_ _ | refine blk_drew ?_ | refine blk_alloc ?_ _)); refine blk_far ?_ NB131_135.out _; (with_reducible repeat (first | refine blk_drewN ?_ _ | refine blk_drew ?_ | refine blk_alloc ?_ _)); refine blk_far ?_ NB131_135.out _; (with_reducible repeat (first | refine blk_drewN ?_ _ | refine blk_drew ?_ | refine blk_alloc ?_ _)); refine blk_far ?_ NB131_135.out _; (with_reducible repeat (first | refine blk_drewN ?_ _ | refine blk_drew ?_ | refine blk_alloc ?_ _)); refine blk_far ?_ NB131_135.out _; (with_reducible repeat (first | refine blk_drewN ?_ _ | refine blk_drew ?_ | refine blk_alloc ?_ _)); exact BK131.out⟩, ⟨by (with_reducible repeat (first | refine blk_drewN ?_ _ | refine blk_drew ?_ | refine blk_alloc ?_ _)); refine blk_put (cs := #[.int .i64 ((rd_T58 l0_2 x5_2).f0), .int .i64 ((rd_T58 l0_2 x5_2).f1), .int .i64 ((rd_T58 l0_2 x5_2).f2), .int .i64 ((rd_T58 l0_2 x5_2).f3), .int .i64 ((rd_T58 l0_2 x5_2).f4), .slice A134_5 ((rd_T58 l0_2 x5_2).f5.f0).length c134_5, .int .i64 ((rd_T58 l0_2 x5_2).f5.f1), .int .i64 0]) ?_ 7 _ rfl; (with_reducible repeat (first | refine blk_drewN ?_ _ | refine blk_drew ?_ | refine blk_alloc ?_ _)); refine blk_put (cs := #[.int .i64 ((rd_T58 l0_2 x5_2).f0), .int .i64 ((rd_T58 l0_2 x5_2).f1), .int .i64 ((rd_T58 l0_2 x5_2).f2), .int .i64 ((rd_T58 l0_2 x5_2).f3), .int .i64 ((rd_T58 l0_2 x5_2).f4), .slice A134_5 ((rd_T58 l0_2 x5_2).f5.f0).length c134_5, .int .i64 0, .int .i64 0]) ?_ 6 _ rfl; (with_reducible repeat (first | refine blk_drewN ?_ _ | refine blk_drew ?_ | refine blk_alloc ?_ _)); refine blk_put (cs := #[.int .i64 ((rd_T58 l0_2 x5_2).f0), .int .i64 ((rd_T58 l0_2 x5_2).f1), .int .i64 ((rd_T58 l0_2 x5_2).f2), .int .i64 ((rd_T58 l0_2 x5_2).f3), .int .i64 ((rd_T58 l0_2 x5_2).f4), .slice none 0 0, .int .i64 0, .int .i64 0]) ?_ 5 _ rfl; (with_reducible repeat (first | refine blk_drewN ?_ _ | refine blk_drew ?_ | refine blk_alloc ?_ _)); refine blk_put (cs := #[.int .i64 ((rd_T58 l0_2 x5_2).f0), .int .i64 ((rd_T58 l0_2 x5_2).f1), .int .i64 ((rd_T58 l0_2 x5_2).f2), .int .i64 ((rd_T58 l0_2 x5_2).f3), .int .i64 0, .slice none 0 0, .int .i64 0, .int .i64 0]) ?_ 4 _ rfl; (with_reducible repeat (first | refine blk_drewN ?_ _ | refine blk_drew ?_ | refine blk_alloc ?_ _)); refine blk_put (cs := #[.int .i64 ((rd_T58 l0_2 x5_2).f0), .int .i64 ((rd_T58 l0_2 x5_2).f1), .int .i64 ((rd_T58 l0_2 x5_2).f2), .int .i64 0, .int .i64 0, .slice none 0 0, .int .i64 0, .int .i64 0]) ?_ 3 _ rfl; (with_reducible repeat (first | refine blk_drewN ?_ _ | refine blk_drew ?_ | refine blk_alloc ?_ _)); refine blk_put (cs := #[.int .i64 ((rd_T58 l0_2 x5_2).f0), .int .i64 ((rd_T58 l0_2 x5_2).f1), .int .i64 0, .int .i64 0, .int .i64 0, .slice none 0 0, .int .i64 0, .int .i64 0]) ?_ 2 _ rfl; (with_reducible repeat (first | refine blk_drewN ?_ _ | refine blk_drew ?_ | refine blk_alloc ?_ _)); refine blk_put (cs := #[.int .i64 ((rd_T58 l0_2 x5_2).f0), .int .i64 0, .int .i64 0, .int .i64 0, .int .i64 0, .slice none 0 0, .int .i64 0, .int .i64 0]) ?_ 1 _ rfl; (with_reducible repeat (first | refine blk_drewN ?_ _ | refine blk_drew ?_ | refine blk_alloc ?_ _)); refine blk_put (cs := #[.int .i64 0, .int .i64 0, .int .i64 0, .int .i64 0, .int .i64 0, .slice none 0 0, .int .i64 0, .int .i64 0]) ?_ 0 _ rfl; (with_reducible repeat (first | refine blk_drewN ?_ _ | refine blk_drew ?_ | refine blk_alloc ?_ _)); exact BK135.out⟩, ⟨by repeat (first | (with_reducible first | exact HB.out | apply below_alloc | apply pw_below_drewN | apply below_drew1 | refine below_set ?_ GE131.out | refine below_set ?_ GE135.out) | exact HB.out)⟩⟩
                      · rw [if_neg c24] at H
                        have c24b0 : decide ((l0_0.length : Int) ≤ ((rd_T58 l0_2 x5_2).f0)) = false := decide_eq_false c24
                        clear c24
                        by_cases c27 : ((rd_T58 l0_2 x5_2).f1) < 0
                        · rw [if_pos c27] at H
                          have c27b0 : decide (((rd_T58 l0_2 x5_2).f1) < 0) = true := decide_eq_true c27
                          clear c27
                          have H' := Aside0.mk H
                          clear H
                          have hnb28 := NB135_131.out
                          have hnc28 := NB131_135.out
                          have hcz29_0 : w18.cell? ⟨gb135, 0, none⟩ = some (.int .i64 0) := (blk_cell BK135.out 0).trans rfl
                          have hcz29_1 : w18.cell? ⟨gb135, 1, none⟩ = some (.int .i64 0) := (blk_cell BK135.out 1).trans rfl
                          have hcz29_2 : w18.cell? ⟨gb135, 2, none⟩ = some (.int .i64 0) := (blk_cell BK135.out 2).trans rfl
                          have hcz29_3 : w18.cell? ⟨gb135, 3, none⟩ = some (.int .i64 0) := (blk_cell BK135.out 3).trans rfl
                          have hcz29_4 : w18.cell? ⟨gb135, 4, none⟩ = some (.int .i64 0) := (blk_cell BK135.out 4).trans rfl
                          have hcz29_5 : w18.cell? ⟨gb135, 5, none⟩ = some (.slice none 0 0) := (blk_cell BK135.out 5).trans rfl
                          have hcz29_6 : w18.cell? ⟨gb135, 6, none⟩ = some (.int .i64 0) := (blk_cell BK135.out 6).trans rfl
                          have hcz29_7 : w18.cell? ⟨gb135, 7, none⟩ = some (.int .i64 0) := (blk_cell BK135.out 7).trans rfl
                          have hfz29_0 := blk_frozen BK135.out 0
                          have hfz29_1 := blk_frozen BK135.out 1
                          have hfz29_2 := blk_frozen BK135.out 2
                          have hfz29_3 := blk_frozen BK135.out 3
                          have hfz29_4 := blk_frozen BK135.out 4
                          have hfz29_5 := blk_frozen BK135.out 5
                          have hfz29_6 := blk_frozen BK135.out 6
                          have hfz29_7 := blk_frozen BK135.out 7
                          go_wp2
                          repeat (go_quiet (fail); try go_wp2)
                          go_meet
                          case rel => exact ⟨_, (true), (by first | rfl | (simp; done) | (simp [*]; done)), H', ⟨by have := HK1.out; have := HK2.out; first | omega | exact Nat.le_refl _⟩, ⟨by (with_reducible repeat (first | refine blk_drewN ?_ _ | refine blk_drew ?_ | refine blk_alloc ?_ _)); refine blk_far ?_ NB131_135.out _; (with_reducible repeat (first | refine blk_drewN ?_ _ | refine blk_drew ?_ | refine blk_alloc ?_ _)); refine blk_far ?_ NB131_135.out _; (with_reducible repeat (first | refine blk_drewN ?_ _ | refine blk_drew ?_ | refine blk_alloc ?_ _)); refine blk_far ?_ NB131_135.out _; (with_reducible repeat (first | refine blk_drewN ?_ _ | refine blk_drew ?_ | refine blk_alloc ?_ _)); refine blk_far ?_ NB131_135.out _; (with_reducible repeat (first | refine blk_drewN ?_ _ | refine blk_drew ?_ | refine blk_alloc ?_ _)); refine blk_far ?_ NB131_135.out _; (with_reducible repeat (first | refine blk_drewN ?_ _ | refine blk_drew ?_ | refine blk_alloc ?_ _)); refine blk_far ?_ NB131_135.out _; (with_reducible repeat (first | refine blk_drewN ?_ _ | refine blk_drew ?_ | refine blk_alloc ?_ _)); refine blk_far ?_ NB131_135.out _; (with_reducible repeat (first | refine blk_drewN ?_ _ | refine blk_drew ?_ | refine blk_alloc ?_ _)); refine blk_far ?_ NB131_135.out _; (with_reducible repeat (first | refine blk_drewN ?_ _ | refine blk_drew ?_ | refine blk_alloc ?_ _)); exact BK131.out⟩, ⟨by (with_reducible repeat (first | refine blk_drewN ?_ _ | refine blk_drew ?_ | refine blk_alloc ?_ _)); refine blk_put (cs := #[.int .i64 ((rd_T58 l0_2 x5_2).f0), .int .i64 ((rd_T58 l0_2 x5_2).f1), .int .i64 ((rd_T58 l0_2 x5_2).f2), .int .i64 ((rd_T58 l0_2 x5_2).f3), .int .i64 ((rd_T58 l0_2 x5_2).f4), .slice A134_5 ((rd_T58 l0_2 x5_2).f5.f0).length c134_5, .int .i64 ((rd_T58 l0_2 x5_2).f5.f1), .int .i64 0]) ?_ 7 _ rfl; (with_reducible repeat (first | refine blk_drewN ?_ _ | refine blk_drew ?_ | refine blk_alloc ?_ _)); refine blk_put (cs := #[.int .i64 ((rd_T58 l0_2 x5_2).f0), .int .i64 ((rd_T58 l0_2 x5_2).f1), .int .i64 ((rd_T58 l0_2 x5_2).f2), .int .i64 ((rd_T58 l0_2 x5_2).f3), .int .i64 ((rd_T58 l0_2 x5_2).f4), .slice A134_5 ((rd_T58 l0_2 x5_2).f5.f0).length c134_5, .int .i64 0, .int .i64 0]) ?_ 6 _ rfl; (with_reducible repeat (first | refine blk_drewN ?_ _ | refine blk_drew ?_ | refine blk_alloc ?_ _)); refine blk_put (cs := #[.int .i64 ((rd_T58 l0_2 x5_2).f0), .int .i64 ((rd_T58 l0_2 x5_2).f1), .int .i64 ((rd_T58 l0_2 x5_2).f2), .int .i64 ((rd_T58 l0_2 x5_2).f3), .int .i64 ((rd_T58 l0_2 x5_2).f4), .slice none 0 0, .int .i64 0, .int .i64 0]) ?_ 5 _ rfl; (with_reducible repeat (first | refine blk_drewN ?_ _ | refine blk_drew ?_ | refine blk_alloc ?_ _)); refine blk_put (cs := #[.int .i64 ((rd_T58 l0_2 x5_2).f0), .int .i64 ((rd_T58 l0_2 x5_2).f1), .int .i64 ((rd_T58 l0_2 x5_2).f2), .int .i64 ((rd_T58 l0_2 x5_2).f3), .int .i64 0, .slice none 0 0, .int .i64 0, .int .i64 0]) ?_ 4 _ rfl; (with_reducible repeat (first | refine blk_drewN ?_ _ | refine blk_drew ?_ | refine blk_alloc ?_ _)); refine blk_put (cs := #[.int .i64 ((rd_T58 l0_2 x5_2).f0), .int .i64 ((rd_T58 l0_2 x5_2).f1), .int .i64 ((rd_T58 l0_2 x5_2).f2), .int .i64 0, .int .i64 0, .slice none 0 0, .int .i64 0, .int .i64 0]) ?_ 3 _ rfl; (with_reducible repeat (first | refine blk_drewN ?_ _ | refine blk_drew ?_ | refine blk_alloc ?_ _)); refine blk_put (cs := #[.int .i64 ((rd_T58 l0_2 x5_2).f0), .int .i64 ((rd_T58 l0_2 x5_2).f1), .int .i64 0, .int .i64 0, .int .i64 0, .slice none 0 0, .int .i64 0, .int .i64 0]) ?_ 2 _ rfl; (with_reducible repeat (first | refine blk_drewN ?_ _ | refine blk_drew ?_ | refine blk_alloc ?_ _)); refine blk_put (cs := #[.int .i64 ((rd_T58 l0_2 x5_2).f0), .int .i64 0, .int .i64 0, .int .i64 0, .int .i64 0, .slice none 0 0, .int .i64 0, .int .i64 0]) ?_ 1 _ rfl; (with_reducible repeat (first | refine blk_drewN ?_ _ | refine blk_drew ?_ | refine blk_alloc ?_ _)); refine blk_put (cs := #[.int .i64 0, .int .i64 0, .int .i64 0, .int .i64 0, .int .i64 0, .slice none 0 0, .int .i64 0, .int .i64 0]) ?_ 0 _ rfl; (with_reducible repeat (first | refine blk_drewN ?_ _ | refine blk_drew ?_ | refine blk_alloc ?_ _)); exact BK135.out⟩, ⟨by repeat (first | (with_reducible first | exact HB.out | apply below_alloc | apply pw_below_drewN | apply below_drew1 | refine below_set ?_ GE131.out | refine below_set ?_ GE135.out) | exact HB.out)⟩⟩
                        · rw [if_neg c27] at H
                          have c27b0 : decide (((rd_T58 l0_2 x5_2).f1) < 0) = false := decide_eq_false c27
                          clear c27
                          by_cases c30 : ((rd_T58 l0_2 x5_2).f1) ≥ (l0_0.length : Int)
                          · rw [if_pos c30] at H
                            have c30b0 : decide ((l0_0.length : Int) ≤ ((rd_T58 l0_2 x5_2).f1)) = true := decide_eq_true c30
                            clear c30
                            have H' := Aside0.mk H
                            clear H
                            have hnb31 := NB135_131.out
                            have hnc31 := NB131_135.out
                            have hcz32_0 : w18.cell? ⟨gb135, 0, none⟩ = some (.int .i64 0) := (blk_cell BK135.out 0).trans rfl
                            have hcz32_1 : w18.cell? ⟨gb135, 1, none⟩ = some (.int .i64 0) := (blk_cell BK135.out 1).trans rfl
                            have hcz32_2 : w18.cell? ⟨gb135, 2, none⟩ = some (.int .i64 0) := (blk_cell BK135.out 2).trans rfl
                            have hcz32_3 : w18.cell? ⟨gb135, 3, none⟩ = some (.int .i64 0) := (blk_cell BK135.out 3).trans rfl
                            have hcz32_4 : w18.cell? ⟨gb135, 4, none⟩ = some (.int .i64 0) := (blk_cell BK135.out 4).trans rfl
                            have hcz32_5 : w18.cell? ⟨gb135, 5, none⟩ = some (.slice none 0 0) := (blk_cell BK135.out 5).trans rfl
                            have hcz32_6 : w18.cell? ⟨gb135, 6, none⟩ = some (.int .i64 0) := (blk_cell BK135.out 6).trans rfl
                            have hcz32_7 : w18.cell? ⟨gb135, 7, none⟩ = some (.int .i64 0) := (blk_cell BK135.out 7).trans rfl
                            have hfz32_0 := blk_frozen BK135.out 0
                            have hfz32_1 := blk_frozen BK135.out 1
                            have hfz32_2 := blk_frozen BK135.out 2
                            have hfz32_3 := blk_frozen BK135.out 3
                            have hfz32_4 := blk_frozen BK135.out 4
                            have hfz32_5 := blk_frozen BK135.out 5
                            have hfz32_6 := blk_frozen BK135.out 6
                            have hfz32_7 := blk_frozen BK135.out 7
                            go_wp2
                            repeat (go_quiet (fail); try go_wp2)
                            go_meet
                            case rel => exact ⟨_, (true), (by first | rfl | (simp; done) | (simp [*]; done)), H', ⟨by have := HK1.out; have := HK2.out; first | omega | exact Nat.le_refl _⟩, ⟨by (with_reducible repeat (first | refine blk_drewN ?_ _ | refine blk_drew ?_ | refine blk_alloc ?_ _)); refine blk_far ?_ NB131_135.out _; (with_reducible repeat (first | refine blk_drewN ?_ _ | refine blk_drew ?_ | refine blk_alloc ?_ _)); refine blk_far ?_ NB131_135.out _; (with_reducible repeat (first | refine blk_drewN ?_ _ | refine blk_drew ?_ | refine blk_alloc ?_ _)); refine blk_far ?_ NB131_135.out _; (with_reducible repeat (first | refine blk_drewN ?_ _ | refine blk_drew ?_ | refine blk_alloc ?_ _)); refine blk_far ?_ NB131_135.out _; (with_reducible repeat (first | refine blk_drewN ?_ _ | refine blk_drew ?_ | refine blk_alloc ?_ _)); refine blk_far ?_ NB131_135.out _; (with_reducible repeat (first | refine blk_drewN ?_ _ | refine blk_drew ?_ | refine blk_alloc ?_ _)); refine blk_far ?_ NB131_135.out _; (with_reducible repeat (first | refine blk_drewN ?_ _ | refine blk_drew ?_ | refine blk_alloc ?_ _)); refine blk_far ?_ NB131_135.out _; (with_reducible repeat (first | refine blk_drewN ?_ _ | refine blk_drew ?_ | refine blk_alloc ?_ _)); refine blk_far ?_ NB131_135.out _; (with_reducible repeat (first | refine blk_drewN ?_ _ | refine blk_drew ?_ | refine blk_alloc ?_ _)); exact BK131.out⟩, ⟨by (with_reducible repeat (first | refine blk_drewN ?_ _ | refine blk_drew ?_ | refine blk_alloc ?_ _)); refine blk_put (cs := #[.int .i64 ((rd_T58 l0_2 x5_2).f0), .int .i64 ((rd_T58 l0_2 x5_2).f1), .int .i64 ((rd_T58 l0_2 x5_2).f2), .int .i64 ((rd_T58 l0_2 x5_2).f3), .int .i64 ((rd_T58 l0_2 x5_2).f4), .slice A134_5 ((rd_T58 l0_2 x5_2).f5.f0).length c134_5, .int .i64 ((rd_T58 l0_2 x5_2).f5.f1), .int .i64 0]) ?_ 7 _ rfl; (with_reducible repeat (first | refine blk_drewN ?_ _ | refine blk_drew ?_ | refine blk_alloc ?_ _)); refine blk_put (cs := #[.int .i64 ((rd_T58 l0_2 x5_2).f0), .int .i64 ((rd_T58 l0_2 x5_2).f1), .int .i64 ((rd_T58 l0_2 x5_2).f2), .int .i64 ((rd_T58 l0_2 x5_2).f3), .int .i64 ((rd_T58 l0_2 x5_2).f4), .slice A134_5 ((rd_T58 l0_2 x5_2).f5.f0).length c134_5, .int .i64 0, .int .i64 0]) ?_ 6 _ rfl; (with_reducible repeat (first | refine blk_drewN ?_ _ | refine blk_drew ?_ | refine blk_alloc ?_ _)); refine blk_put (cs := #[.int .i64 ((rd_T58 l0_2 x5_2).f0), .int .i64 ((rd_T58 l0_2 x5_2).f1), .int .i64 ((rd_T58 l0_2 x5_2).f2), .int .i64 ((rd_T58 l0_2 x5_2).f3), .int .i64 ((rd_T58 l0_2 x5_2).f4), .slice none 0 0, .int .i64 0, .int .i64 0]) ?_ 5 _ rfl; (with_reducible repeat (first | refine blk_drewN ?_ _ | refine blk_drew ?_ | refine blk_alloc ?_ _)); refine blk_put (cs := #[.int .i64 ((rd_T58 l0_2 x5_2).f0), .int .i64 ((rd_T58 l0_2 x5_2).f1), .int .i64 ((rd_T58 l0_2 x5_2).f2), .int .i64 ((rd_T58 l0_2 x5_2).f3), .int .i64 0, .slice none 0 0, .int .i64 0, .int .i64 0]) ?_ 4 _ rfl; (with_reducible repeat (first | refine blk_drewN ?_ _ | refine blk_drew ?_ | refine blk_alloc ?_ _)); refine blk_put (cs := #[.int .i64 ((rd_T58 l0_2 x5_2).f0), .int .i64 ((rd_T58 l0_2 x5_2).f1), .int .i64 ((rd_T58 l0_2 x5_2).f2), .int .i64 0, .int .i64 0, .slice none 0 0, .int .i64 0, .int .i64 0]) ?_ 3 _ rfl; (with_reducible repeat (first | refine blk_drewN ?_ _ | refine blk_drew ?_ | refine blk_alloc ?_ _)); refine blk_put (cs := #[.int .i64 ((rd_T58 l0_2 x5_2).f0), .int .i64 ((rd_T58 l0_2 x5_2).f1), .int .i64 0, .int .i64 0, .int .i64 0, .slice none 0 0, .int .i64 0, .int .i64 0]) ?_ 2 _ rfl; (with_reducible repeat (first | refine blk_drewN ?_ _ | refine blk_drew ?_ | refine blk_alloc ?_ _)); refine blk_put (cs := #[.int .i64 ((rd_T58 l0_2 x5_2).f0), .int .i64 0, .int .i64 0, .int .i64 0, .int .i64 0, .slice none 0 0, .int .i64 0, .int .i64 0]) ?_ 1 _ rfl; (with_reducible repeat (first | refine blk_drewN ?_ _ | refine blk_drew ?_ | refine blk_alloc ?_ _)); refine blk_put (cs := #[.int .i64 0, .int .i64 0, .int .i64 0, .int .i64 0, .int .i64 0, .slice none 0 0, .int .i64 0, .int .i64 0]) ?_ 0 _ rfl; (with_reducible repeat (first | refine blk_drewN ?_ _ | refine blk_drew ?_ | refine blk_alloc ?_ _)); exact BK135.out⟩, ⟨by repeat (first | (with_reducible first | exact HB.out | apply below_alloc | apply pw_below_drewN | apply below_drew1 | refine below_set ?_ GE131.out | refine below_set ?_ GE135.out) | exact HB.out)⟩⟩
                          · rw [if_neg c30] at H
                            have c30b0 : decide ((l0_0.length : Int) ≤ ((rd_T58 l0_2 x5_2).f1)) = false := decide_eq_false c30
                            clear c30
                            by_cases c33 : ((rd_T58 l0_2 x5_2).f2) < 1
                            · rw [if_pos c33] at H
                              have c33b0 : decide (((rd_T58 l0_2 x5_2).f2) < 1) = true := decide_eq_true c33
                              clear c33
                              have H' := Aside0.mk H
                              clear H
                              have hnb34 := NB135_131.out
                              have hnc34 := NB131_135.out
                              have hcz35_0 : w18.cell? ⟨gb135, 0, none⟩ = some (.int .i64 0) := (blk_cell BK135.out 0).trans rfl
                              have hcz35_1 : w18.cell? ⟨gb135, 1, none⟩ = some (.int .i64 0) := (blk_cell BK135.out 1).trans rfl
                              have hcz35_2 : w18.cell? ⟨gb135, 2, none⟩ = some (.int .i64 0) := (blk_cell BK135.out 2).trans rfl
                              have hcz35_3 : w18.cell? ⟨gb135, 3, none⟩ = some (.int .i64 0) := (blk_cell BK135.out 3).trans rfl
                              have hcz35_4 : w18.cell? ⟨gb135, 4, none⟩ = some (.int .i64 0) := (blk_cell BK135.out 4).trans rfl
                              have hcz35_5 : w18.cell? ⟨gb135, 5, none⟩ = some (.slice none 0 0) := (blk_cell BK135.out 5).trans rfl
                              have hcz35_6 : w18.cell? ⟨gb135, 6, none⟩ = some (.int .i64 0) := (blk_cell BK135.out 6).trans rfl
                              have hcz35_7 : w18.cell? ⟨gb135, 7, none⟩ = some (.int .i64 0) := (blk_cell BK135.out 7).trans rfl
                              have hfz35_0 := blk_frozen BK135.out 0
                              have hfz35_1 := blk_frozen BK135.out 1
                              have hfz35_2 := blk_frozen BK135.out 2
                              have hfz35_3 := blk_frozen BK135.out 3
                              have hfz35_4 := blk_frozen BK135.out 4
                              have hfz35_5 := blk_frozen BK135.out 5
                              have hfz35_6 := blk_frozen BK135.out 6
                              have hfz35_7 := blk_frozen BK135.out 7
                              go_wp2
                              repeat (go_quiet (fail); try go_wp2)
                              go_meet
                              case rel => exact ⟨_, (true), (by first | rfl | (simp; done) | (simp [*]; done)), H', ⟨by have := HK1.out; have := HK2.out; first | omega | exact Nat.le_refl _⟩, ⟨by (with_reducible repeat (first | refine blk_drewN ?_ _ | refine blk_drew ?_ | refine blk_alloc ?_ _)); refine blk_far ?_ NB131_135.out _; (with_reducible repeat (first | refine blk_drewN ?_ _ | refine blk_drew ?_ | refine blk_alloc ?_ _)); refine blk_far ?_ NB131_135.out _; (with_reducible repeat (first | refine blk_drewN ?_ _ | refine blk_drew ?_ | refine blk_alloc ?_ _)); refine blk_far ?_ NB131_135.out _; (with_reducible repeat (first | refine blk_drewN ?_ _ | refine blk_drew ?_ | refine blk_alloc ?_ _)); refine blk_far ?_ NB131_135.out _; (with_reducible repeat (first | refine blk_drewN ?_ _ | refine blk_drew ?_ | refine blk_alloc ?_ _)); refine blk_far ?_ NB131_135.out _; (with_reducible repeat (first | refine blk_drewN ?_ _ | refine blk_drew ?_ | refine blk_alloc ?_ _)); refine blk_far ?_ NB131_135.out _; (with_reducible repeat (first | refine blk_drewN ?_ _ | refine blk_drew ?_ | refine blk_alloc ?_ _)); refine blk_far ?_ NB131_135.out _; (with_reducible repeat (first | refine blk_drewN ?_ _ | refine blk_drew ?_ | refine blk_alloc ?_ _)); refine blk_far ?_ NB131_135.out _; (with_reducible repeat (first | refine blk_drewN ?_ _ | refine blk_drew ?_ | refine blk_alloc ?_ _)); exact BK131.out⟩, ⟨by (with_reducible repeat (first | refine blk_drewN ?_ _ | refine blk_drew ?_ | refine blk_alloc ?_ _)); refine blk_put (cs := #[.int .i64 ((rd_T58 l0_2 x5_2).f0), .int .i64 ((rd_T58 l0_2 x5_2).f1), .int .i64 ((rd_T58 l0_2 x5_2).f2), .int .i64 ((rd_T58 l0_2 x5_2).f3), .int .i64 ((rd_T58 l0_2 x5_2).f4), .slice A134_5 ((rd_T58 l0_2 x5_2).f5.f0).length c134_5, .int .i64 ((rd_T58 l0_2 x5_2).f5.f1), .int .i64 0]) ?_ 7 _ rfl; (with_reducible repeat (first | refine blk_drewN ?_ _ | refine blk_drew ?_ | refine blk_alloc ?_ _)); refine blk_put (cs := #[.int .i64 ((rd_T58 l0_2 x5_2).f0), .int .i64 ((rd_T58 l0_2 x5_2).f1), .int .i64 ((rd_T58 l0_2 x5_2).f2), .int .i64 ((rd_T58 l0_2 x5_2).f3), .int .i64 ((rd_T58 l0_2 x5_2).f4), .slice A134_5 ((rd_T58 l0_2 x5_2).f5.f0).length c134_5, .int .i64 0, .int .i64 0]) ?_ 6 _ rfl; (with_reducible repeat (first | refine blk_drewN ?_ _ | refine blk_drew ?_ | refine blk_alloc ?_ _)); refine blk_put (cs := #[.int .i64 ((rd_T58 l0_2 x5_2).f0), .int .i64 ((rd_T58 l0_2 x5_2).f1), .int .i64 ((rd_T58 l0_2 x5_2).f2), .int .i64 ((rd_T58 l0_2 x5_2).f3), .int .i64 ((rd_T58 l0_2 x5_2).f4), .slice none 0 0, .int .i64 0, .int .i64 0]) ?_ 5 _ rfl; (with_reducible repeat (first | refine blk_drewN ?_ _ | refine blk_drew ?_ | refine blk_alloc ?_ _)); refine blk_put (cs := #[.int .i64 ((rd_T58 l0_2 x5_2).f0), .int .i64 ((rd_T58 l0_2 x5_2).f1), .int .i64 ((rd_T58 l0_2 x5_2).f2), .int .i64 ((rd_T58 l0_2 x5_2).f3), .int .i64 0, .slice none 0 0, .int .i64 0, .int .i64 0]) ?_ 4 _ rfl; (with_reducible repeat (first | refine blk_drewN ?_ _ | refine blk_drew ?_ | refine blk_alloc ?_ _)); refine blk_put (cs := #[.int .i64 ((rd_T58 l0_2 x5_2).f0), .int .i64 ((rd_T58 l0_2 x5_2).f1), .int .i64 ((rd_T58 l0_2 x5_2).f2), .int .i64 0, .int .i64 0, .slice none 0 0, .int .i64 0, .int .i64 0]) ?_ 3 _ rfl; (with_reducible repeat (first | refine blk_drewN ?_ _ | refine blk_drew ?_ | refine blk_alloc ?_ _)); refine blk_put (cs := #[.int .i64 ((rd_T58 l0_2 x5_2).f0), .int .i64 ((rd_T58 l0_2 x5_2).f1), .int .i64 0, .int .i64 0, .int .i64 0, .slice none 0 0, .int .i64 0, .int .i64 0]) ?_ 2 _ rfl; (with_reducible repeat (first | refine blk_drewN ?_ _ | refine blk_drew ?_ | refine blk_alloc ?_ _)); refine blk_put (cs := #[.int .i64 ((rd_T58 l0_2 x5_2).f0), .int .i64 0, .int .i64 0, .int .i64 0, .int .i64 0, .slice none 0 0, .int .i64 0, .int .i64 0]) ?_ 1 _ rfl; (with_reducible repeat (first | refine blk_drewN ?_ _ | refine blk_drew ?_ | refine blk_alloc ?_ _)); refine blk_put (cs := #[.int .i64 0, .int .i64 0, .int .i64 0, .int .i64 0, .int .i64 0, .slice none 0 0, .int .i64 0, .int .i64 0]) ?_ 0 _ rfl; (with_reducible repeat (first | refine blk_drewN ?_ _ | refine blk_drew ?_ | refine blk_alloc ?_ _)); exact BK135.out⟩, ⟨by repeat (first | (with_reducible first | exact HB.out | apply below_alloc | apply pw_below_drewN | apply below_drew1 | refine below_set ?_ GE131.out | refine below_set ?_ GE135.out) | exact HB.out)⟩⟩
                            · rw [if_neg c33] at H
                              have c33b0 : decide (((rd_T58 l0_2 x5_2).f2) < 1) = false := decide_eq_false c33
                              clear c33
                              by_cases c36 : ((rd_T58 l0_2 x5_2).f2) > 2147483647
                              · rw [if_pos c36] at H
                                have c36b0 : decide (2147483647 < ((rd_T58 l0_2 x5_2).f2)) = true := decide_eq_true c36
                                clear c36
                                have H' := Aside0.mk H
                                clear H
                                have hnb37 := NB135_131.out
                                have hnc37 := NB131_135.out
                                have hcz38_0 : w18.cell? ⟨gb135, 0, none⟩ = some (.int .i64 0) := (blk_cell BK135.out 0).trans rfl
                                have hcz38_1 : w18.cell? ⟨gb135, 1, none⟩ = some (.int .i64 0) := (blk_cell BK135.out 1).trans rfl
                                have hcz38_2 : w18.cell? ⟨gb135, 2, none⟩ = some (.int .i64 0) := (blk_cell BK135.out 2).trans rfl
                                have hcz38_3 : w18.cell? ⟨gb135, 3, none⟩ = some (.int .i64 0) := (blk_cell BK135.out 3).trans rfl
                                have hcz38_4 : w18.cell? ⟨gb135, 4, none⟩ = some (.int .i64 0) := (blk_cell BK135.out 4).trans rfl
                                have hcz38_5 : w18.cell? ⟨gb135, 5, none⟩ = some (.slice none 0 0) := (blk_cell BK135.out 5).trans rfl
                                have hcz38_6 : w18.cell? ⟨gb135, 6, none⟩ = some (.int .i64 0) := (blk_cell BK135.out 6).trans rfl
                                have hcz38_7 : w18.cell? ⟨gb135, 7, none⟩ = some (.int .i64 0) := (blk_cell BK135.out 7).trans rfl
                                have hfz38_0 := blk_frozen BK135.out 0
                                have hfz38_1 := blk_frozen BK135.out 1
                                have hfz38_2 := blk_frozen BK135.out 2
                                have hfz38_3 := blk_frozen BK135.out 3
                                have hfz38_4 := blk_frozen BK135.out 4
                                have hfz38_5 := blk_frozen BK135.out 5
                                have hfz38_6 := blk_frozen BK135.out 6
                                have hfz38_7 := blk_frozen BK135.out 7
                                go_wp2
                                repeat (go_quiet (fail); try go_wp2)
                                go_meet
                                case rel => exact ⟨_, (true), (by first | rfl | (simp; done) | (simp [*]; done)), H', ⟨by have := HK1.out; have := HK2.out; first | omega | exact Nat.le_refl _⟩, ⟨by (with_reducible repeat (first | refine blk_drewN ?_ _ | refine blk_drew ?_ | refine blk_alloc ?_ _)); refine blk_far ?_ NB131_135.out _; (with_reducible repeat (first | refine blk_drewN ?_ _ | refine blk_drew ?_ | refine blk_alloc ?_ _)); refine blk_far ?_ NB131_135.out _; (with_reducible repeat (first | refine blk_drewN ?_ _ | refine blk_drew ?_ | refine blk_alloc ?_ _)); refine blk_far ?_ NB131_135.out _; (with_reducible repeat (first | refine blk_drewN ?_ _ | refine blk_drew ?_ | refine blk_alloc ?_ _)); refine blk_far ?_ NB131_135.out _; (with_reducible repeat (first | refine blk_drewN ?_ _ | refine blk_drew ?_ | refine blk_alloc ?_ _)); refine blk_far ?_ NB131_135.out _; (with_reducible repeat (first | refine blk_drewN ?_ _ | refine blk_drew ?_ | refine blk_alloc ?_ _)); refine blk_far ?_ NB131_135.out _; (with_reducible repeat (first | refine blk_drewN ?_ _ | refine blk_drew ?_ | refine blk_alloc ?_ _)); refine blk_far ?_ NB131_135.out _; (with_reducible repeat (first | refine blk_drewN ?_ _ | refine blk_drew ?_ | refine blk_alloc ?_ _)); refine blk_far ?_ NB131_135.out _; (with_reducible repeat (first | refine blk_drewN ?_ _ | refine blk_drew ?_ | refine blk_alloc ?_ _)); exact BK131.out⟩, ⟨by (with_reducible repeat (first | refine blk_drewN ?_ _ | refine blk_drew ?_ | refine blk_alloc ?_ _)); refine blk_put (cs := #[.int .i64 ((rd_T58 l0_2 x5_2).f0), .int .i64 ((rd_T58 l0_2 x5_2).f1), .int .i64 ((rd_T58 l0_2 x5_2).f2), .int .i64 ((rd_T58 l0_2 x5_2).f3), .int .i64 ((rd_T58 l0_2 x5_2).f4), .slice A134_5 ((rd_T58 l0_2 x5_2).f5.f0).length c134_5, .int .i64 ((rd_T58 l0_2 x5_2).f5.f1), .int .i64 0]) ?_ 7 _ rfl; (with_reducible repeat (first | refine blk_drewN ?_ _ | refine blk_drew ?_ | refine blk_alloc ?_ _)); refine blk_put (cs := #[.int .i64 ((rd_T58 l0_2 x5_2).f0), .int .i64 ((rd_T58 l0_2 x5_2).f1), .int .i64 ((rd_T58 l0_2 x5_2).f2), .int .i64 ((rd_T58 l0_2 x5_2).f3), .int .i64 ((rd_T58 l0_2 x5_2).f4), .slice A134_5 ((rd_T58 l0_2 x5_2).f5.f0).length c134_5, .int .i64 0, .int .i64 0]) ?_ 6 _ rfl; (with_reducible repeat (first | refine blk_drewN ?_ _ | refine blk_drew ?_ | refine blk_alloc ?_ _)); refine blk_put (cs := #[.int .i64 ((rd_T58 l0_2 x5_2).f0), .int .i64 ((rd_T58 l0_2 x5_2).f1), .int .i64 ((rd_T58 l0_2 x5_2).f2), .int .i64 ((rd_T58 l0_2 x5_2).f3), .int .i64 ((rd_T58 l0_2 x5_2).f4), .slice none 0 0, .int .i64 0, .int .i64 0]) ?_ 5 _ rfl; (with_reducible repeat (first | refine blk_drewN ?_ _ | refine blk_drew ?_ | refine blk_alloc ?_ _)); refine blk_put (cs := #[.int .i64 ((rd_T58 l0_2 x5_2).f0), .int .i64 ((rd_T58 l0_2 x5_2).f1), .int .i64 ((rd_T58 l0_2 x5_2).f2), .int .i64 ((rd_T58 l0_2 x5_2).f3), .int .i64 0, .slice none 0 0, .int .i64 0, .int .i64 0]) ?_ 4 _ rfl; (with_reducible repeat (first | refine blk_drewN ?_ _ | refine blk_drew ?_ | refine blk_alloc ?_ _)); refine blk_put (cs := #[.int .i64 ((rd_T58 l0_2 x5_2).f0), .int .i64 ((rd_T58 l0_2 x5_2).f1), .int .i64 ((rd_T58 l0_2 x5_2).f2), .int .i64 0, .int .i64 0, .slice none 0 0, .int .i64 0, .int .i64 0]) ?_ 3 _ rfl; (with_reducible repeat (first | refine blk_drewN ?_ _ | refine blk_drew ?_ | refine blk_alloc ?_ _)); refine blk_put (cs := #[.int .i64 ((rd_T58 l0_2 x5_2).f0), .int .i64 ((rd_T58 l0_2 x5_2).f1), .int .i64 0, .int .i64 0, .int .i64 0, .slice none 0 0, .int .i64 0, .int .i64 0]) ?_ 2 _ rfl; (with_reducible repeat (first | refine blk_drewN ?_ _ | refine blk_drew ?_ | refine blk_alloc ?_ _)); refine blk_put (cs := #[.int .i64 ((rd_T58 l0_2 x5_2).f0), .int .i64 0, .int .i64 0, .int .i64 0, .int .i64 0, .slice none 0 0, .int .i64 0, .int .i64 0]) ?_ 1 _ rfl; (with_reducible repeat (first | refine blk_drewN ?_ _ | refine blk_drew ?_ | refine blk_alloc ?_ _)); refine blk_put (cs := #[.int .i64 0, .int .i64 0, .int .i64 0, .int .i64 0, .int .i64 0, .slice none 0 0, .int .i64 0, .int .i64 0]) ?_ 0 _ rfl; (with_reducible repeat (first | refine blk_drewN ?_ _ | refine blk_drew ?_ | refine blk_alloc ?_ _)); exact BK135.out⟩, ⟨by repeat (first | (with_reducible first | exact HB.out | apply below_alloc | apply pw_below_drewN | apply below_drew1 | refine below_set ?_ GE131.out | refine below_set ?_ GE135.out) | exact HB.out)⟩⟩
                              · rw [if_neg c36] at H
                                have c36b0 : decide (2147483647 < ((rd_T58 l0_2 x5_2).f2)) = false := decide_eq_false c36
                                clear c36
                                by_cases c39 : ((rd_T58 l0_2 x5_2).f4) < 1
                                · rw [if_pos c39] at H
                                  have c39b0 : decide (((rd_T58 l0_2 x5_2).f4) < 1) = true := decide_eq_true c39
                                  clear c39
                                  have H' := Aside0.mk H
                                  clear H
                                  have hnb40 := NB135_131.out
                                  have hnc40 := NB131_135.out
                                  have hcz41_0 : w18.cell? ⟨gb135, 0, none⟩ = some (.int .i64 0) := (blk_cell BK135.out 0).trans rfl
                                  have hcz41_1 : w18.cell? ⟨gb135, 1, none⟩ = some (.int .i64 0) := (blk_cell BK135.out 1).trans rfl
                                  have hcz41_2 : w18.cell? ⟨gb135, 2, none⟩ = some (.int .i64 0) := (blk_cell BK135.out 2).trans rfl
                                  have hcz41_3 : w18.cell? ⟨gb135, 3, none⟩ = some (.int .i64 0) := (blk_cell BK135.out 3).trans rfl
                                  have hcz41_4 : w18.cell? ⟨gb135, 4, none⟩ = some (.int .i64 0) := (blk_cell BK135.out 4).trans rfl
                                  have hcz41_5 : w18.cell? ⟨gb135, 5, none⟩ = some (.slice none 0 0) := (blk_cell BK135.out 5).trans rfl
                                  have hcz41_6 : w18.cell? ⟨gb135, 6, none⟩ = some (.int .i64 0) := (blk_cell BK135.out 6).trans rfl
                                  have hcz41_7 : w18.cell? ⟨gb135, 7, none⟩ = some (.int .i64 0) := (blk_cell BK135.out 7).trans rfl
                                  have hfz41_0 := blk_frozen BK135.out 0
                                  have hfz41_1 := blk_frozen BK135.out 1
                                  have hfz41_2 := blk_frozen BK135.out 2
                                  have hfz41_3 := blk_frozen BK135.out 3
                                  have hfz41_4 := blk_frozen BK135.out 4
                                  have hfz41_5 := blk_frozen BK135.out 5
                                  have hfz41_6 := blk_frozen BK135.out 6
                                  have hfz41_7 := blk_frozen BK135.out 7
                                  go_wp2
                                  repeat (go_quiet (fail); try go_wp2)
                                  go_meet
                                  case rel => exact ⟨_, (true), (by first | rfl | (simp; done) | (simp [*]; done)), H', ⟨by have := HK1.out; have := HK2.out; first | omega | exact Nat.le_refl _⟩, ⟨by (with_reducible repeat (first | refine blk_drewN ?_ _ | refine blk_drew ?_ | refine blk_alloc ?_ _)); refine blk_far ?_ NB131_135.out _; (with_reducible repeat (first | refine blk_drewN ?_ _ | refine blk_drew ?_ | refine blk_alloc ?_ _)); refine blk_far ?_ NB131_135.out _; (with_reducible repeat (first | refine blk_drewN ?_ _ | refine blk_drew ?_ | refine blk_alloc ?_ _)); refine blk_far ?_ NB131_135.out _; (with_reducible repeat (first | refine blk_drewN ?_ _ | refine blk_drew ?_ | refine blk_alloc ?_ _)); refine blk_far ?_ NB131_135.out _; (with_reducible repeat (first | refine blk_drewN ?_ _ | refine blk_drew ?_ | refine blk_alloc ?_ _)); refine blk_far ?_ NB131_135.out _; (with_reducible repeat (first | refine blk_drewN ?_ _ | refine blk_drew ?_ | refine blk_alloc ?_ _)); refine blk_far ?_ NB131_135.out _; (with_reducible repeat (first | refine blk_drewN ?_ _ | refine blk_drew ?_ | refine blk_alloc ?_ _)); refine blk_far ?_ NB131_135.out _; (with_reducible repeat (first | refine blk_drewN ?_ _ | refine blk_drew ?_ | refine blk_alloc ?_ _)); refine blk_far ?_ NB131_135.out _; (with_reducible repeat (first | refine blk_drewN ?_ _ | refine blk_drew ?_ | refine blk_alloc ?_ _)); exact BK131.out⟩, ⟨by (with_reducible repeat (first | refine blk_drewN ?_ _ | refine blk_drew ?_ | refine blk_alloc ?_ _)); refine blk_put (cs := #[.int .i64 ((rd_T58 l0_2 x5_2).f0), .int .i64 ((rd_T58 l0_2 x5_2).f1), .int .i64 ((rd_T58 l0_2 x5_2).f2), .int .i64 ((rd_T58 l0_2 x5_2).f3), .int .i64 ((rd_T58 l0_2 x5_2).f4), .slice A134_5 ((rd_T58 l0_2 x5_2).f5.f0).length c134_5, .int .i64 ((rd_T58 l0_2 x5_2).f5.f1), .int .i64 0]) ?_ 7 _ rfl; (with_reducible repeat (first | refine blk_drewN ?_ _ | refine blk_drew ?_ | refine blk_alloc ?_ _)); refine blk_put (cs := #[.int .i64 ((rd_T58 l0_2 x5_2).f0), .int .i64 ((rd_T58 l0_2 x5_2).f1), .int .i64 ((rd_T58 l0_2 x5_2).f2), .int .i64 ((rd_T58 l0_2 x5_2).f3), .int .i64 ((rd_T58 l0_2 x5_2).f4), .slice A134_5 ((rd_T58 l0_2 x5_2).f5.f0).length c134_5, .int .i64 0, .int .i64 0]) ?_ 6 _ rfl; (with_reducible repeat (first | refine blk_drewN ?_ _ | refine blk_drew ?_ | refine blk_alloc ?_ _)); refine blk_put (cs := #[.int .i64 ((rd_T58 l0_2 x5_2).f0), .int .i64 ((rd_T58 l0_2 x5_2).f1), .int .i64 ((rd_T58 l0_2 x5_2).f2), .int .i64 ((rd_T58 l0_2 x5_2).f3), .int .i64 ((rd_T58 l0_2 x5_2).f4), .slice none 0 0, .int .i64 0, .int .i64 0]) ?_ 5 _ rfl; (with_reducible repeat (first | refine blk_drewN ?_ _ | refine blk_drew ?_ | refine blk_alloc ?_ _)); refine blk_put (cs := #[.int .i64 ((rd_T58 l0_2 x5_2).f0), .int .i64 ((rd_T58 l0_2 x5_2).f1), .int .i64 ((rd_T58 l0_2 x5_2).f2), .int .i64 ((rd_T58 l0_2 x5_2).f3), .int .i64 0, .slice none 0 0, .int .i64 0, .int .i64 0]) ?_ 4 _ rfl; (with_reducible repeat (first | refine blk_drewN ?_ _ | refine blk_drew ?_ | refine blk_alloc ?_ _)); refine blk_put (cs := #[.int .i64 ((rd_T58 l0_2 x5_2).f0), .int .i64 ((rd_T58 l0_2 x5_2).f1), .int .i64 ((rd_T58 l0_2 x5_2).f2), .int .i64 0, .int .i64 0, .slice none 0 0, .int .i64 0, .int .i64 0]) ?_ 3 _ rfl; (with_reducible repeat (first | refine blk_drewN ?_ _ | refine blk_drew ?_ | refine blk_alloc ?_ _)); refine blk_put (cs := #[.int .i64 ((rd_T58 l0_2 x5_2).f0), .int .i64 ((rd_T58 l0_2 x5_2).f1), .int .i64 0, .int .i64 0, .int .i64 0, .slice none 0 0, .int .i64 0, .int .i64 0]) ?_ 2 _ rfl; (with_reducible repeat (first | refine blk_drewN ?_ _ | refine blk_drew ?_ | refine blk_alloc ?_ _)); refine blk_put (cs := #[.int .i64 ((rd_T58 l0_2 x5_2).f0), .int .i64 0, .int .i64 0, .int .i64 0, .int .i64 0, .slice none 0 0, .int .i64 0, .int .i64 0]) ?_ 1 _ rfl; (with_reducible repeat (first | refine blk_drewN ?_ _ | refine blk_drew ?_ | refine blk_alloc ?_ _)); refine blk_put (cs := #[.int .i64 0, .int .i64 0, .int .i64 0, .int .i64 0, .int .i64 0, .slice none 0 0, .int .i64 0, .int .i64 0]) ?_ 0 _ rfl; (with_reducible repeat (first | refine blk_drewN ?_ _ | refine blk_drew ?_ | refine blk_alloc ?_ _)); exact BK135.out⟩, ⟨by repeat (first | (with_reducible first | exact HB.out | apply below_alloc | apply pw_below_drewN | apply below_drew1 | refine below_set ?_ GE131.out | refine below_set ?_ GE135.out) | exact HB.out)⟩⟩
                                · rw [if_neg c39] at H
                                  have c39b0 : decide (((rd_T58 l0_2 x5_2).f4) < 1) = false := decide_eq_false c39
                                  clear c39
                                  by_cases c42 : ((rd_T58 l0_2 x5_2).f4) > 6
                                  · rw [if_pos c42] at H
                                    have c42b0 : decide (6 < ((rd_T58 l0_2 x5_2).f4)) = true := decide_eq_true c42
                                    clear c42
                                    have H' := Aside0.mk H
                                    clear H
                                    have hnb43 := NB135_131.out
                                    have hnc43 := NB131_135.out
                                    have hcz44_0 : w18.cell? ⟨gb135, 0, none⟩ = some (.int .i64 0) := (blk_cell BK135.out 0).trans rfl
                                    have hcz44_1 : w18.cell? ⟨gb135, 1, none⟩ = some (.int .i64 0) := (blk_cell BK135.out 1).trans rfl
                                    have hcz44_2 : w18.cell? ⟨gb135, 2, none⟩ = some (.int .i64 0) := (blk_cell BK135.out 2).trans rfl
                                    have hcz44_3 : w18.cell? ⟨gb135, 3, none⟩ = some (.int .i64 0) := (blk_cell BK135.out 3).trans rfl
                                    have hcz44_4 : w18.cell? ⟨gb135, 4, none⟩ = some (.int .i64 0) := (blk_cell BK135.out 4).trans rfl
                                    have hcz44_5 : w18.cell? ⟨gb135, 5, none⟩ = some (.slice none 0 0) := (blk_cell BK135.out 5).trans rfl
                                    have hcz44_6 : w18.cell? ⟨gb135, 6, none⟩ = some (.int .i64 0) := (blk_cell BK135.out 6).trans rfl
                                    have hcz44_7 : w18.cell? ⟨gb135, 7, none⟩ = some (.int .i64 0) := (blk_cell BK135.out 7).trans rfl
                                    have hfz44_0 := blk_frozen BK135.out 0
                                    have hfz44_1 := blk_frozen BK135.out 1
                                    have hfz44_2 := blk_frozen BK135.out 2
                                    have hfz44_3 := blk_frozen BK135.out 3
                                    have hfz44_4 := blk_frozen BK135.out 4
                                    have hfz44_5 := blk_frozen BK135.out 5
                                    have hfz44_6 := blk_frozen BK135.out 6
                                    have hfz44_7 := blk_frozen BK135.out 7
                                    go_wp2
                                    repeat (go_quiet (fail); try go_wp2)
                                    go_meet
                                    case rel => exact ⟨_, (true), (by first | rfl | (simp; done) | (simp [*]; done)), H', ⟨by have := HK1.out; have := HK2.out; first | omega | exact Nat.le_refl _⟩, ⟨by (with_reducible repeat (first | refine blk_drewN ?_ _ | refine blk_drew ?_ | refine blk_alloc ?_ _)); refine blk_far ?_ NB131_135.out _; (with_reducible repeat (first | refine blk_drewN ?_ _ | refine blk_drew ?_ | refine blk_alloc ?_ _)); refine blk_far ?_ NB131_135.out _; (with_reducible repeat (first | refine blk_drewN ?_ _ | refine blk_drew ?_ | refine blk_alloc ?_ _)); refine blk_far ?_ NB131_135.out _; (with_reducible repeat (first | refine blk_drewN ?_ _ | refine blk_drew ?_ | refine blk_alloc ?_ _)); refine blk_far ?_ NB131_135.out _; (with_reducible repeat (first | refine blk_drewN ?_ _ | refine blk_drew ?_ | refine blk_alloc ?_ _)); refine blk_far ?_ NB131_135.out _; (with_reducible repeat (first | refine blk_drewN ?_ _ | refine blk_drew ?_ | refine blk_alloc ?_ _)); refine blk_far ?_ NB131_135.out _; (with_reducible repeat (first | refine blk_drewN ?_ _ | refine blk_drew ?_ | refine blk_alloc ?_ _)); refine blk_far ?_ NB131_135.out _; (with_reducible repeat (first | refine blk_drewN ?_ _ | refine blk_drew ?_ | refine blk_alloc ?_ _)); refine blk_far ?_ NB131_135.out _; (with_reducible repeat (first | refine blk_drewN ?_ _ | refine blk_drew ?_ | refine blk_alloc ?_ _)); exact BK131.out⟩, ⟨by (with_reducible repeat (first | refine blk_drewN ?_ _ | refine blk_drew ?_ | refine blk_alloc ?_ _)); refine blk_put (cs := #[.int .i64 ((rd_T58 l0_2 x5_2).f0), .int .i64 ((rd_T58 l0_2 x5_2).f1), .int .i64 ((rd_T58 l0_2 x5_2).f2), .int .i64 ((rd_T58 l0_2 x5_2).f3), .int .i64 ((rd_T58 l0_2 x5_2).f4), .slice A134_5 ((rd_T58 l0_2 x5_2).f5.f0).length c134_5, .int .i64 ((rd_T58 l0_2 x5_2).f5.f1), .int .i64 0]) ?_ 7 _ rfl; (with_reducible repeat (first | refine blk_drewN ?_ _ | refine blk_drew ?_ | refine blk_alloc ?_ _)); refine blk_put (cs := #[.int .i64 ((rd_T58 l0_2 x5_2).f0), .int .i64 ((rd_T58 l0_2 x5_2).f1), .int .i64 ((rd_T58 l0_2 x5_2).f2), .int .i64 ((rd_T58 l0_2 x5_2).f3), .int .i64 ((rd_T58 l0_2 x5_2).f4), .slice A134_5 ((rd_T58 l0_2 x5_2).f5.f0).length c134_5, .int .i64 0, .int .i64 0]) ?_ 6 _ rfl; (with_reducible repeat (first | refine blk_drewN ?_ _ | refine blk_drew ?_ | refine blk_alloc ?_ _)); refine blk_put (cs := #[.int .i64 ((rd_T58 l0_2 x5_2).f0), .int .i64 ((rd_T58 l0_2 x5_2).f1), .int .i64 ((rd_T58 l0_2 x5_2).f2), .int .i64 ((rd_T58 l0_2 x5_2).f3), .int .i64 ((rd_T58 l0_2 x5_2).f4), .slice none 0 0, .int .i64 0, .int .i64 0]) ?_ 5 _ rfl; (with_reducible repeat (first | refine blk_drewN ?_ _ | refine blk_drew ?_ | refine blk_alloc ?_ _)); refine blk_put (cs := #[.int .i64 ((rd_T58 l0_2 x5_2).f0), .int .i64 ((rd_T58 l0_2 x5_2).f1), .int .i64 ((rd_T58 l0_2 x5_2).f2), .int .i64 ((rd_T58 l0_2 x5_2).f3), .int .i64 0, .slice none 0 0, .int .i64 0, .int .i64 0]) ?_ 4 _ rfl; (with_reducible repeat (first | refine blk_drewN ?_ _ | refine blk_drew ?_ | refine blk_alloc ?_ _)); refine blk_put (cs := #[.int .i64 ((rd_T58 l0_2 x5_2).f0), .int .i64 ((rd_T58 l0_2 x5_2).f1), .int .i64 ((rd_T58 l0_2 x5_2).f2), .int .i64 0, .int .i64 0, .slice none 0 0, .int .i64 0, .int .i64 0]) ?_ 3 _ rfl; (with_reducible repeat (first | refine blk_drewN ?_ _ | refine blk_drew ?_ | refine blk_alloc ?_ _)); refine blk_put (cs := #[.int .i64 ((rd_T58 l0_2 x5_2).f0), .int .i64 ((rd_T58 l0_2 x5_2).f1), .int .i64 0, .int .i64 0, .int .i64 0, .slice none 0 0, .int .i64 0, .int .i64 0]) ?_ 2 _ rfl; (with_reducible repeat (first | refine blk_drewN ?_ _ | refine blk_drew ?_ | refine blk_alloc ?_ _)); refine blk_put (cs := #[.int .i64 ((rd_T58 l0_2 x5_2).f0), .int .i64 0, .int .i64 0, .int .i64 0, .int .i64 0, .slice none 0 0, .int .i64 0, .int .i64 0]) ?_ 1 _ rfl; (with_reducible repeat (first | refine blk_drewN ?_ _ | refine blk_drew ?_ | refine blk_alloc ?_ _)); refine blk_put (cs := #[.int .i64 0, .int .i64 0, .int .i64 0, .int .i64 0, .int .i64 0, .slice none 0 0, .int .i64 0, .int .i64 0]) ?_ 0 _ rfl; (with_reducible repeat (first | refine blk_drewN ?_ _ | refine blk_drew ?_ | refine blk_alloc ?_ _)); exact BK135.out⟩, ⟨by repeat (first | (with_reducible first | exact HB.out | apply below_alloc | apply pw_below_drewN | apply below_drew1 | refine below_set ?_ GE131.out | refine below_set ?_ GE135.out) | exact HB.out)⟩⟩
                                  · rw [if_neg c42] at H
                                    have c42b0 : decide (6 < ((rd_T58 l0_2 x5_2).f4)) = false := decide_eq_false c42
                                    clear c42
                                    by_cases c45 : ((rd_T58 l0_2 x5_2).f3) < 0
                                    · rw [if_pos c45] at H
                                      have c45b0 : decide (((rd_T58 l0_2 x5_2).f3) < 0) = true := decide_eq_true c45
                                      clear c45
                                      have H' := Aside0.mk H
                                      clear H
                                      have hnb46 := NB135_131.out
                                      have hnc46 := NB131_135.out
                                      have hcz47_0 : w18.cell? ⟨gb135, 0, none⟩ = some (.int .i64 0) := (blk_cell BK135.out 0).trans rfl
                                      have hcz47_1 : w18.cell? ⟨gb135, 1, none⟩ = some (.int .i64 0) := (blk_cell BK135.out 1).trans rfl
                                      have hcz47_2 : w18.cell? ⟨gb135, 2, none⟩ = some (.int .i64 0) := (blk_cell BK135.out 2).trans rfl
                                      have hcz47_3 : w18.cell? ⟨gb135, 3, none⟩ = some (.int .i64 0) := (blk_cell BK135.out 3).trans rfl
                                      have hcz47_4 : w18.cell? ⟨gb135, 4, none⟩ = some (.int .i64 0) := (blk_cell BK135.out 4).trans rfl
                                      have hcz47_5 : w18.cell? ⟨gb135, 5, none⟩ = some (.slice none 0 0) := (blk_cell BK135.out 5).trans rfl
                                      have hcz47_6 : w18.cell? ⟨gb135, 6, none⟩ = some (.int .i64 0) := (blk_cell BK135.out 6).trans rfl
                                      have hcz47_7 : w18.cell? ⟨gb135, 7, none⟩ = some (.int .i64 0) := (blk_cell BK135.out 7).trans rfl
                                      have hfz47_0 := blk_frozen BK135.out 0
                                      have hfz47_1 := blk_frozen BK135.out 1
                                      have hfz47_2 := blk_frozen BK135.out 2
                                      have hfz47_3 := blk_frozen BK135.out 3
                                      have hfz47_4 := blk_frozen BK135.out 4
                                      have hfz47_5 := blk_frozen BK135.out 5
                                      have hfz47_6 := blk_frozen BK135.out 6
                                      have hfz47_7 := blk_frozen BK135.out 7
                                      go_wp2
                                      repeat (go_quiet (fail); try go_wp2)
                                      go_meet
                                      case rel => exact ⟨_, (true), (by first | rfl | (simp; done) | (simp [*]; done)), H', ⟨by have := HK1.out; have := HK2.out; first | omega | exact Nat.le_refl _⟩, ⟨by (with_reducible repeat (first | refine blk_drewN ?_ _ | refine blk_drew ?_ | refine blk_alloc ?_ _)); refine blk_far ?_ NB131_135.out _; (with_reducible repeat (first | refine blk_drewN ?_ _ | refine blk_drew ?_ | refine blk_alloc ?_ _)); refine blk_far ?_ NB131_135.out _; (with_reducible repeat (first | refine blk_drewN ?_ _ | refine blk_drew ?_ | refine blk_alloc ?_ _)); refine blk_far ?_ NB131_135.out _; (with_reducible repeat (first | refine blk_drewN ?_ _ | refine blk_drew ?_ | refine blk_alloc ?_ _)); refine blk_far ?_ NB131_135.out _; (with_reducible repeat (first | refine blk_drewN ?_ _ | refine blk_drew ?_ | refine blk_alloc ?_ _)); refine blk_far ?_ NB131_135.out _; (with_reducible repeat (first | refine blk_drewN ?_ _ | refine blk_drew ?_ | refine blk_alloc ?_ _)); refine blk_far ?_ NB131_135.out _; (with_reducible repeat (first | refine blk_drewN ?_ _ | refine blk_drew ?_ | refine blk_alloc ?_ _)); refine blk_far ?_ NB131_135.out _; (with_reducible repeat (first | refine blk_drewN ?_ _ | refine blk_drew ?_ | refine blk_alloc ?_ _)); refine blk_far ?_ NB131_135.out _; (with_reducible repeat (first | refine blk_drewN ?_ _ | refine blk_drew ?_ | refine blk_alloc ?_ _)); exact BK131.out⟩, ⟨by (with_reducible repeat (first | refine blk_drewN ?_ _ | refine blk_drew ?_ | refine blk_alloc ?_ _)); refine blk_put (cs := #[.int .i64 ((rd_T58 l0_2 x5_2).f0), .int .i64 ((rd_T58 l0_2 x5_2).f1), .int .i64 ((rd_T58 l0_2 x5_2).f2), .int .i64 ((rd_T58 l0_2 x5_2).f3), .int .i64 ((rd_T58 l0_2 x5_2).f4), .slice A134_5 ((rd_T58 l0_2 x5_2).f5.f0).length c134_5, .int .i64 ((rd_T58 l0_2 x5_2).f5.f1), .int .i64 0]) ?_ 7 _ rfl; (with_reducible repeat (first | refine blk_drewN ?_ _ | refine blk_drew ?_ | refine blk_alloc ?_ _)); refine blk_put (cs := #[.int .i64 ((rd_T58 l0_2 x5_2).f0), .int .i64 ((rd_T58 l0_2 x5_2).f1), .int .i64 ((rd_T58 l0_2 x5_2).f2), .int .i64 ((rd_T58 l0_2 x5_2).f3), .int .i64 ((rd_T58 l0_2 x5_2).f4), .slice A134_5 ((rd_T58 l0_2 x5_2).f5.f0).length c134_5, .int .i64 0, .int .i64 0]) ?_ 6 _ rfl; (with_reducible repeat (first | refine blk_drewN ?_ _ | refine blk_drew ?_ | refine blk_alloc ?_ _)); refine blk_put (cs := #[.int .i64 ((rd_T58 l0_2 x5_2).f0), .int .i64 ((rd_T58 l0_2 x5_2).f1), .int .i64 ((rd_T58 l0_2 x5_2).f2), .int .i64 ((rd_T58 l0_2 x5_2).f3), .int .i64 ((rd_T58 l0_2 x5_2).f4), .slice none 0 0, .int .i64 0, .int .i64 0]) ?_ 5 _ rfl; (with_reducible repeat (first | refine blk_drewN ?_ _ | refine blk_drew ?_ | refine blk_alloc ?_ _)); refine blk_put (cs := #[.int .i64 ((rd_T58 l0_2 x5_2).f0), .int .i64 ((rd_T58 l0_2 x5_2).f1), .int .i64 ((rd_T58 l0_2 x5_2).f2), .int .i64 ((rd_T58 l0_2 x5_2).f3), .int .i64 0, .slice none 0 0, .int .i64 0, .int .i64 0]) ?_ 4 _ rfl; (with_reducible repeat (first | refine blk_drewN ?_ _ | refine blk_drew ?_ | refine blk_alloc ?_ _)); refine blk_put (cs := #[.int .i64 ((rd_T58 l0_2 x5_2).f0), .int .i64 ((rd_T58 l0_2 x5_2).f1), .int .i64 ((rd_T58 l0_2 x5_2).f2), .int .i64 0, .int .i64 0, .slice none 0 0, .int .i64 0, .int .i64 0]) ?_ 3 _ rfl; (with_reducible repeat (first | refine blk_drewN ?_ _ | refine blk_drew ?_ | refine blk_alloc ?_ _)); refine blk_put (cs := #[.int .i64 ((rd_T58 l0_2 x5_2).f0), .int .i64 ((rd_T58 l0_2 x5_2).f1), .int .i64 0, .int .i64 0, .int .i64 0, .slice none 0 0, .int .i64 0, .int .i64 0]) ?_ 2 _ rfl; (with_reducible repeat (first | refine blk_drewN ?_ _ | refine blk_drew ?_ | refine blk_alloc ?_ _)); refine blk_put (cs := #[.int .i64 ((rd_T58 l0_2 x5_2).f0), .int .i64 0, .int .i64 0, .int .i64 0, .int .i64 0, .slice none 0 0, .int .i64 0, .int .i64 0]) ?_ 1 _ rfl; (with_reducible repeat (first | refine blk_drewN ?_ _ | refine blk_drew ?_ | refine blk_alloc ?_ _)); refine blk_put (cs := #[.int .i64 0, .int .i64 0, .int .i64 0, .int .i64 0, .int .i64 0, .slice none 0 0, .int .i64 0, .int .i64 0]) ?_ 0 _ rfl; (with_reducible repeat (first | refine blk_drewN ?_ _ | refine blk_drew ?_ | refine blk_alloc ?_ _)); exact BK135.out⟩, ⟨by repeat (first | (with_reducible first | exact HB.out | apply below_alloc | apply pw_below_drewN | apply below_drew1 | refine below_set ?_ GE131.out | refine below_set ?_ GE135.out) | exact HB.out)⟩⟩
                                    · rw [if_neg c45] at H
                                      have c45b0 : decide (((rd_T58 l0_2 x5_2).f3) < 0) = false := decide_eq_false c45
                                      clear c45
                                      have H' := Aside0.mk H
                                      clear H
                                      have hnb48 := NB135_131.out
                                      have hnc48 := NB131_135.out
                                      have hcz49_0 : w18.cell? ⟨gb135, 0, none⟩ = some (.int .i64 0) := (blk_cell BK135.out 0).trans rfl
                                      have hcz49_1 : w18.cell? ⟨gb135, 1, none⟩ = some (.int .i64 0) := (blk_cell BK135.out 1).trans rfl
                                      have hcz49_2 : w18.cell? ⟨gb135, 2, none⟩ = some (.int .i64 0) := (blk_cell BK135.out 2).trans rfl
                                      have hcz49_3 : w18.cell? ⟨gb135, 3, none⟩ = some (.int .i64 0) := (blk_cell BK135.out 3).trans rfl
                                      have hcz49_4 : w18.cell? ⟨gb135, 4, none⟩ = some (.int .i64 0) := (blk_cell BK135.out 4).trans rfl
                                      have hcz49_5 : w18.cell? ⟨gb135, 5, none⟩ = some (.slice none 0 0) := (blk_cell BK135.out 5).trans rfl
                                      have hcz49_6 : w18.cell? ⟨gb135, 6, none⟩ = some (.int .i64 0) := (blk_cell BK135.out 6).trans rfl
                                      have hcz49_7 : w18.cell? ⟨gb135, 7, none⟩ = some (.int .i64 0) := (blk_cell BK135.out 7).trans rfl
                                      have hfz49_0 := blk_frozen BK135.out 0
                                      have hfz49_1 := blk_frozen BK135.out 1
                                      have hfz49_2 := blk_frozen BK135.out 2
                                      have hfz49_3 := blk_frozen BK135.out 3
                                      have hfz49_4 := blk_frozen BK135.out 4
                                      have hfz49_5 := blk_frozen BK135.out 5
                                      have hfz49_6 := blk_frozen BK135.out 6
                                      have hfz49_7 := blk_frozen BK135.out 7
                                      go_wp2
                                      repeat (go_quiet (fail); try go_wp2)
                                      go_meet
                                      case rel => exact ⟨_, (decide (((rd_T58 l0_2 x5_2).f3) > 67108864)), (by first | rfl | (simp; done) | (simp [*]; done)), H', ⟨by have := HK1.out; have := HK2.out; first | omega | exact Nat.le_refl _⟩, ⟨by (with_reducible repeat (first | refine blk_drewN ?_ _ | refine blk_drew ?_ | refine blk_alloc ?_ _)); refine blk_far ?_ NB131_135.out _; (with_reducible repeat (first | refine blk_drewN ?_ _ | refine blk_drew ?_ | refine blk_alloc ?_ _)); refine blk_far ?_ NB131_135.out _; (with_reducible repeat (first | refine blk_drewN ?_ _ | refine blk_drew ?_ | refine blk_alloc ?_ _)); refine blk_far ?_ NB131_135.out _; (with_reducible repeat (first | refine blk_drewN ?_ _ | refine blk_drew ?_ | refine blk_alloc ?_ _)); refine blk_far ?_ NB131_135.out _; (with_reducible repeat (first | refine blk_drewN ?_ _ | refine blk_drew ?_ | refine blk_alloc ?_ _)); refine blk_far ?_ NB131_135.out _; (with_reducible repeat (first | refine blk_drewN ?_ _ | refine blk_drew ?_ | refine blk_alloc ?_ _)); refine blk_far ?_ NB131_135.out _; (with_reducible repeat (first | refine blk_drewN ?_ _ | refine blk_drew ?_ | refine blk_alloc ?_ _)); refine blk_far ?_ NB131_135.out _; (with_reducible repeat (first | refine blk_drewN ?_ _ | refine blk_drew ?_ | refine blk_alloc ?_ _)); refine blk_far ?_ NB131_135.out _; (with_reducible repeat (first | refine blk_drewN ?_ _ | refine blk_drew ?_ | refine blk_alloc ?_ _)); exact BK131.out⟩, ⟨by (with_reducible repeat (first | refine blk_drewN ?_ _ | refine blk_drew ?_ | refine blk_alloc ?_ _)); refine blk_put (cs := #[.int .i64 ((rd_T58 l0_2 x5_2).f0), .int .i64 ((rd_T58 l0_2 x5_2).f1), .int .i64 ((rd_T58 l0_2 x5_2).f2), .int .i64 ((rd_T58 l0_2 x5_2).f3), .int .i64 ((rd_T58 l0_2 x5_2).f4), .slice A134_5 ((rd_T58 l0_2 x5_2).f5.f0).length c134_5, .int .i64 ((rd_T58 l0_2 x5_2).f5.f1), .int .i64 0]) ?_ 7 _ rfl; (with_reducible repeat (first | refine blk_drewN ?_ _ | refine blk_drew ?_ | refine blk_alloc ?_ _)); refine blk_put (cs := #[.int .i64 ((rd_T58 l0_2 x5_2).f0), .int .i64 ((rd_T58 l0_2 x5_2).f1), .int .i64 ((rd_T58 l0_2 x5_2).f2), .int .i64 ((rd_T58 l0_2 x5_2).f3), .int .i64 ((rd_T58 l0_2 x5_2).f4), .slice A134_5 ((rd_T58 l0_2 x5_2).f5.f0).length c134_5, .int .i64 0, .int .i64 0]) ?_ 6 _ rfl; (with_reducible repeat (first | refine blk_drewN ?_ _ | refine blk_drew ?_ | refine blk_alloc ?_ _)); refine blk_put (cs := #[.int .i64 ((rd_T58 l0_2 x5_2).f0), .int .i64 ((rd_T58 l0_2 x5_2).f1), .int .i64 ((rd_T58 l0_2 x5_2).f2), .int .i64 ((rd_T58 l0_2 x5_2).f3), .int .i64 ((rd_T58 l0_2 x5_2).f4), .slice none 0 0, .int .i64 0, .int .i64 0]) ?_ 5 _ rfl; (with_reducible repeat (first | refine blk_drewN ?_ _ | refine blk_drew ?_ | refine blk_alloc ?_ _)); refine blk_put (cs := #[.int .i64 ((rd_T58 l0_2 x5_2).f0), .int .i64 ((rd_T58 l0_2 x5_2).f1), .int .i64 ((rd_T58 l0_2 x5_2).f2), .int .i64 ((rd_T58 l0_2 x5_2).f3), .int .i64 0, .slice none 0 0, .int .i64 0, .int .i64 0]) ?_ 4 _ rfl; (with_reducible repeat (first | refine blk_drewN ?_ _ | refine blk_drew ?_ | refine blk_alloc ?_ _)); refine blk_put (cs := #[.int .i64 ((rd_T58 l0_2 x5_2).f0), .int .i64 ((rd_T58 l0_2 x5_2).f1), .int .i64 ((rd_T58 l0_2 x5_2).f2), .int .i64 0, .int .i64 0, .slice none 0 0, .int .i64 0, .int .i64 0]) ?_ 3 _ rfl; (with_reducible repeat (first | refine blk_drewN ?_ _ | refine blk_drew ?_ | refine blk_alloc ?_ _)); refine blk_put (cs := #[.int .i64 ((rd_T58 l0_2 x5_2).f0), .int .i64 ((rd_T58 l0_2 x5_2).f1), .int .i64 0, .int .i64 0, .int .i64 0, .slice none 0 0, .int .i64 0, .int .i64 0]) ?_ 2 _ rfl; (with_reducible repeat (first | refine blk_drewN ?_ _ | refine blk_drew ?_ | refine blk_alloc ?_ _)); refine blk_put (cs := #[.int .i64 ((rd_T58 l0_2 x5_2).f0), .int .i64 0, .int .i64 0, .int .i64 0, .int .i64 0, .slice none 0 0, .int .i64 0, .int .i64 0]) ?_ 1 _ rfl; (with_reducible repeat (first | refine blk_drewN ?_ _ | refine blk_drew ?_ | refine blk_alloc ?_ _)); refine blk_put (cs := #[.int .i64 0, .int .i64 0, .int .i64 0, .int .i64 0, .int .i64 0, .slice none 0 0, .int .i64 0, .int .i64 0]) ?_ 0 _ rfl; (with_reducible repeat (first | refine blk_drewN ?_ _ | refine blk_drew ?_ | refine blk_alloc ?_ _)); exact BK135.out⟩, ⟨by repeat (first | (with_reducible first | exact HB.out | apply below_alloc | apply pw_below_drewN | apply below_drew1 | refine below_set ?_ GE131.out | refine below_set ?_ GE135.out) | exact HB.out)⟩⟩
                  case rest =>
                    clear HC16
                    try clear c1
                    try clear p1
                    try clear q1
                    try clear hx1
                    try clear c2
                    try clear c2b0
                    try clear c2b1
                    try clear c2b2
                    try clear p2
                    try clear c3
                    try clear c4
                    try clear c5
                    try clear c5b0
                    try clear p6
                    try clear c7
                    try clear c7b0
                    try clear c8
                    try clear c8b0
                    try clear c9
                    try clear c9b0
                    try clear c10
                    try clear c10b0
                    try clear c11
                    try clear c11b0
                    try clear c13
                    try clear p13
                    try clear q13
                    try clear hx13
                    try clear c14
                    try clear c14b0
                    try clear c15
                    try clear c15b0
                    try clear c19
                    try clear c20
                    try clear c21
                    try clear c21b0
                    try clear c22
                    try clear c24
                    try clear c24b0
                    try clear c25
                    try clear c27
                    try clear c27b0
                    try clear c28
                    try clear c30
                    try clear c30b0
                    try clear c31
                    try clear c33
                    try clear c33b0
                    try clear c34
                    try clear c36
                    try clear c36b0
                    try clear c37
                    try clear c39
                    try clear c39b0
                    try clear c40
                    try clear c42
                    try clear c42b0
                    try clear c43
                    try clear c45
                    try clear c45b0
                    try clear c46
                    try clear c48
                    try clear hcz12_0
                    try clear hcz12_1
                    try clear hcz12_2
                    try clear hcz13_0
                    try clear hcz13_1
                    try clear hcz13_2
                    try clear hcz17_0
                    try clear hcz17_1
                    try clear hcz17_2
                    try clear hcz20_0
                    try clear hcz20_1
                    try clear hcz20_2
                    try clear hcz20_3
                    try clear hcz20_4
                    try clear hcz20_5
                    try clear hcz20_6
                    try clear hcz20_7
                    try clear hcz23_0
                    try clear hcz23_1
                    try clear hcz23_2
                    try clear hcz23_3
                    try clear hcz23_4
                    try clear hcz23_5
                    try clear hcz23_6
                    try clear hcz23_7
                    try clear hcz26_0
                    try clear hcz26_1
                    try clear hcz26_2
                    try clear hcz26_3
                    try clear hcz26_4
                    try clear hcz26_5
                    try clear hcz26_6
                    try clear hcz26_7
                    try clear hcz29_0
                    try clear hcz29_1
                    try clear hcz29_2
                    try clear hcz29_3
                    try clear hcz29_4
                    try clear hcz29_5
                    try clear hcz29_6
                    try clear hcz29_7
                    try clear hcz32_0
                    try clear hcz32_1
                    try clear hcz32_2
                    try clear hcz32_3
                    try clear hcz32_4
                    try clear hcz32_5
                    try clear hcz32_6
                    try clear hcz32_7
                    try clear hcz35_0
                    try clear hcz35_1
                    try clear hcz35_2
                    try clear hcz35_3
                    try clear hcz35_4
                    try clear hcz35_5
                    try clear hcz35_6
                    try clear hcz35_7
                    try clear hcz38_0
                    try clear hcz38_1
                    try clear hcz38_2
                    try clear hcz38_3
                    try clear hcz38_4
                    try clear hcz38_5
                    try clear hcz38_6
                    try clear hcz38_7
                    try clear hcz41_0
                    try clear hcz41_1
                    try clear hcz41_2
                    try clear hcz41_3
                    try clear hcz41_4
                    try clear hcz41_5
                    try clear hcz41_6
                    try clear hcz41_7
                    try clear hcz44_0
                    try clear hcz44_1
                    try clear hcz44_2
                    try clear hcz44_3
                    try clear hcz44_4
                    try clear hcz44_5
                    try clear hcz44_6
                    try clear hcz44_7
                    try clear hcz47_0
                    try clear hcz47_1
                    try clear hcz47_2
                    try clear hcz47_3
                    try clear hcz47_4
                    try clear hcz47_5
                    try clear hcz47_6
                    try clear hcz47_7
                    try clear hcz49_0
                    try clear hcz49_1
                    try clear hcz49_2
                    try clear hcz49_3
                    try clear hcz49_4
                    try clear hcz49_5
                    try clear hcz49_6
                    try clear hcz49_7
                    try clear hcz4_0
                    try clear hcz4_1
                    try clear hcz4_2
                    try clear hfz12_0
                    try clear hfz12_1
                    try clear hfz12_2
                    try clear hfz13_0
                    try clear hfz13_1
                    try clear hfz13_2
                    try clear hfz17_0
                    try clear hfz17_1
                    try clear hfz17_2
                    try clear hfz20_0
                    try clear hfz20_1
                    try clear hfz20_2
                    try clear hfz20_3
                    try clear hfz20_4
                    try clear hfz20_5
                    try clear hfz20_6
                    try clear hfz20_7
                    try clear hfz23_0
                    try clear hfz23_1
                    try clear hfz23_2
                    try clear hfz23_3
                    try clear hfz23_4
                    try clear hfz23_5
                    try clear hfz23_6
                    try clear hfz23_7
                    try clear hfz26_0
                    try clear hfz26_1
                    try clear hfz26_2
                    try clear hfz26_3
                    try clear hfz26_4
                    try clear hfz26_5
                    try clear hfz26_6
                    try clear hfz26_7
                    try clear hfz29_0
                    try clear hfz29_1
                    try clear hfz29_2
                    try clear hfz29_3
                    try clear hfz29_4
                    try clear hfz29_5
                    try clear hfz29_6
                    try clear hfz29_7
                    try clear hfz32_0
                    try clear hfz32_1
                    try clear hfz32_2
                    try clear hfz32_3
                    try clear hfz32_4
                    try clear hfz32_5
                    try clear hfz32_6
                    try clear hfz32_7
                    try clear hfz35_0
                    try clear hfz35_1
                    try clear hfz35_2
                    try clear hfz35_3
                    try clear hfz35_4
                    try clear hfz35_5
                    try clear hfz35_6
                    try clear hfz35_7
                    try clear hfz38_0
                    try clear hfz38_1
                    try clear hfz38_2
                    try clear hfz38_3
                    try clear hfz38_4
                    try clear hfz38_5
                    try clear hfz38_6
                    try clear hfz38_7
                    try clear hfz41_0
                    try clear hfz41_1
                    try clear hfz41_2
                    try clear hfz41_3
                    try clear hfz41_4
                    try clear hfz41_5
                    try clear hfz41_6
                    try clear hfz41_7
                    try clear hfz44_0
                    try clear hfz44_1
                    try clear hfz44_2
                    try clear hfz44_3
                    try clear hfz44_4
                    try clear hfz44_5
                    try clear hfz44_6
                    try clear hfz44_7
                    try clear hfz47_0
                    try clear hfz47_1
                    try clear hfz47_2
                    try clear hfz47_3
                    try clear hfz47_4
                    try clear hfz47_5
                    try clear hfz47_6
                    try clear hfz47_7
                    try clear hfz49_0
                    try clear hfz49_1
                    try clear hfz49_2
                    try clear hfz49_3
                    try clear hfz49_4
                    try clear hfz49_5
                    try clear hfz49_6
                    try clear hfz49_7
                    try clear hfz4_0
                    try clear hfz4_1
                    try clear hfz4_2
                    try clear hx132_0
                    try clear hx133_0
                    try clear hx134_0
                    try clear hx134_1
                    try clear hx134_2
                    try clear hx134_3
                    try clear hx134_4
                    try clear hx134_5
                    try clear hx134_6
                    try clear hx134_7
                    try clear p1
                    try clear p13
                    try clear p132
                    try clear p133
                    try clear p134
                    try clear p2
                    try clear p6
                    try clear q1
                    try clear q13
                    try clear q132
                    try clear q133
                    try clear q134
                    obtain ⟨kq, x94_15, rfl, HA, HJ15, BK131, BK135, HB⟩ := hcut
                    cases kq with
                    | zero => exact absurd HA.out (by simp [mapmakerref46_Check.j2])
                    | succ kj15 =>
                      have H := HA.out
                      clear HA
                      simp only [mapmakerref46_Check.j2] at H
                      by_cases c50 : x94_15 = true
                      · subst c50
                        have H1 : (some 2) = some r := by rw [if_pos rfl] at H; exact H
                        clear H
                        have H := H1
                        clear H1
                        obtain rfl := Option.some.inj H
                        go_wp2
                        repeat (go_quiet (fail); try go_wp2)
                        go_ret
                        exact ⟨by first | rfl | (simp [errW_none, errW_some] <;> rfl) | (simp [*, errW_none, errW_some] <;> rfl), by repeat (first | (with_reducible first | exact HB.out | apply below_alloc | apply pw_below_drewN | apply below_drew1 | refine below_set ?_ GE131.out | refine below_set ?_ GE135.out) | exact HB.out)⟩
                      · replace c50 := Bool.eq_false_iff.mpr c50
                        subst c50
                        have H1 : ((mapmakerref07_Check.f kj15 ((rd_T58 l0_2 x5_2).f5.f0) ((rd_T58 l0_2 x5_2).f5.f1) ((rd_T58 l0_2 x5_2).f5.f2)).bind fun t136 => (if t136 = 0 then (mapmakerref46_Check.l1 kj15 (l0_0.length : Int) (wrap64 (x5_2 + 1)) l0_0 l0_1 l0_2) else (some t136))) = some r := by rw [if_neg (show ¬ (false = true) by decide)] at H; exact H
                        clear H
                        have H := H1
                        clear H1
                        replace H := Option.bind_eq_some_iff.mp H
                        obtain ⟨t136, A510, H⟩ := H
                        replace H : (if t136 = 0 then (mapmakerref46_Check.l1 kj15 (l0_0.length : Int) (wrap64 (x5_2 + 1)) l0_0 l0_1 l0_2) else (some t136)) = some r := H
                        have A51 := Aside0.mk A510
                        clear A510
                        by_cases c52 : t136 = 0
                        · rw [if_pos c52] at H
                          have c52b0 : (t136 == 0) = true := beq_iff_eq.mpr c52
                          have c52b1 : (t136 != 0) = false := bne_eq_false_iff_eq.mpr c52
                          clear c52
                          have H' := Aside0.mk H
                          clear H
                          have hnb53 := NB135_131.out
                          have hnc53 := NB131_135.out
                          have hcz54_0 : wc.cell? ⟨gb135, 0, none⟩ = some (.int .i64 ((rd_T58 l0_2 x5_2).f0)) := (blk_cell BK135.out 0).trans rfl
                          have hcz54_1 : wc.cell? ⟨gb135, 1, none⟩ = some (.int .i64 ((rd_T58 l0_2 x5_2).f1)) := (blk_cell BK135.out 1).trans rfl
                          have hcz54_2 : wc.cell? ⟨gb135, 2, none⟩ = some (.int .i64 ((rd_T58 l0_2 x5_2).f2)) := (blk_cell BK135.out 2).trans rfl
                          have hcz54_3 : wc.cell? ⟨gb135, 3, none⟩ = some (.int .i64 ((rd_T58 l0_2 x5_2).f3)) := (blk_cell BK135.out 3).trans rfl
                          have hcz54_4 : wc.cell? ⟨gb135, 4, none⟩ = some (.int .i64 ((rd_T58 l0_2 x5_2).f4)) := (blk_cell BK135.out 4).trans rfl
                          have hcz54_5 : wc.cell? ⟨gb135, 5, none⟩ = some (.slice A134_5 ((rd_T58 l0_2 x5_2).f5.f0).length c134_5) := (blk_cell BK135.out 5).trans rfl
                          have hcz54_6 : wc.cell? ⟨gb135, 6, none⟩ = some (.int .i64 ((rd_T58 l0_2 x5_2).f5.f1)) := (blk_cell BK135.out 6).trans rfl
                          have hcz54_7 : wc.cell? ⟨gb135, 7, none⟩ = some (.int .i64 ((rd_T58 l0_2 x5_2).f5.f2)) := (blk_cell BK135.out 7).trans rfl
                          have hfz54_0 := blk_frozen BK135.out 0
                          have hfz54_1 := blk_frozen BK135.out 1
                          have hfz54_2 := blk_frozen BK135.out 2
                          have hfz54_3 := blk_frozen BK135.out 3
                          have hfz54_4 := blk_frozen BK135.out 4
                          have hfz54_5 := blk_frozen BK135.out 5
                          have hfz54_6 := blk_frozen BK135.out 6
                          have hfz54_7 := blk_frozen BK135.out 7
                          go_wp2_with (first | (go_at_call 40; (with_reducible refine (mapmakerref07_Check.calls kj15 _ _ ((rd_T58 l0_2 x5_2).f5.f0) ((rd_T58 l0_2 x5_2).f5.f1) ((rd_T58 l0_2 x5_2).f5.f2) t136 _ ?side1 ?side2 A51.out).mono ?_); (case side1 => repeat (first | exact (Kd.C_below HR134_5.out HB.out) | (with_reducible refine Kd.C_alloc ?_ _) | (with_reducible refine Kd.C_drewN ?_ _) | (with_reducible refine Kd.C_drew ?_))); (case side2 => exact HC134_5.out); rintro e w55 ⟨rfl, hb⟩; have n0_ := Aside0.mk (blk_below (g := gb131) (o := .cells #[.slice A0_0 l0_0.length c0_0, .slice A0_1 l0_1.length c0_1, .slice (some ad134) l0_2.length c0_2] 37 (0, 0)) (by (with_reducible repeat (first | refine blk_drewN ?_ _ | refine blk_drew ?_ | refine blk_alloc ?_ _)); exact BK131.out) hb); have n1_ := Aside0.mk (blk_below (g := gb135) (o := .cells #[.int .i64 ((rd_T58 l0_2 x5_2).f0), .int .i64 ((rd_T58 l0_2 x5_2).f1), .int .i64 ((rd_T58 l0_2 x5_2).f2), .int .i64 ((rd_T58 l0_2 x5_2).f3), .int .i64 ((rd_T58 l0_2 x5_2).f4), .slice A134_5 ((rd_T58 l0_2 x5_2).f5.f0).length c134_5, .int .i64 ((rd_T58 l0_2 x5_2).f5.f1), .int .i64 ((rd_T58 l0_2 x5_2).f5.f2)] 58 (0, 0)) (by (with_reducible repeat (first | refine blk_drewN ?_ _ | refine blk_drew ?_ | refine blk_alloc ?_ _)); exact BK135.out) hb); have n2_ := Aside0.mk (below_step (by repeat (first | (with_reducible first | exact HB.out | apply below_alloc | apply pw_below_drewN | apply below_drew1 | refine below_set ?_ GE131.out | refine below_set ?_ GE135.out) | exact HB.out)) hb); clear BK131; clear BK135; clear HB; have BK131 := n0_; have BK135 := n1_; have HB := n2_; clear n0_ n1_ n2_; (try clear hb); (try clear hb2); (try clear hk); (try clear hi)))
                          repeat (go_quiet (first | (go_at_call 40; (with_reducible refine (mapmakerref07_Check.calls kj15 _ _ ((rd_T58 l0_2 x5_2).f5.f0) ((rd_T58 l0_2 x5_2).f5.f1) ((rd_T58 l0_2 x5_2).f5.f2) t136 _ ?side1 ?side2 A51.out).mono ?_); (case side1 => repeat (first | exact (Kd.C_below HR134_5.out HB.out) | (with_reducible refine Kd.C_alloc ?_ _) | (with_reducible refine Kd.C_drewN ?_ _) | (with_reducible refine Kd.C_drew ?_))); (case side2 => exact HC134_5.out); rintro e w55 ⟨rfl, hb⟩; have n0_ := Aside0.mk (blk_below (g := gb131) (o := .cells #[.slice A0_0 l0_0.length c0_0, .slice A0_1 l0_1.length c0_1, .slice (some ad134) l0_2.length c0_2] 37 (0, 0)) (by (with_reducible repeat (first | refine blk_drewN ?_ _ | refine blk_drew ?_ | refine blk_alloc ?_ _)); exact BK131.out) hb); have n1_ := Aside0.mk (blk_below (g := gb135) (o := .cells #[.int .i64 ((rd_T58 l0_2 x5_2).f0), .int .i64 ((rd_T58 l0_2 x5_2).f1), .int .i64 ((rd_T58 l0_2 x5_2).f2), .int .i64 ((rd_T58 l0_2 x5_2).f3), .int .i64 ((rd_T58 l0_2 x5_2).f4), .slice A134_5 ((rd_T58 l0_2 x5_2).f5.f0).length c134_5, .int .i64 ((rd_T58 l0_2 x5_2).f5.f1), .int .i64 ((rd_T58 l0_2 x5_2).f5.f2)] 58 (0, 0)) (by (with_reducible repeat (first | refine blk_drewN ?_ _ | refine blk_drew ?_ | refine blk_alloc ?_ _)); exact BK135.out) hb); have n2_ := Aside0.mk (below_step (by repeat (first | (with_reducible first | exact HB.out | apply below_alloc | apply pw_below_drewN | apply below_drew1 | refine below_set ?_ GE131.out | refine below_set ?_ GE135.out) | exact HB.out)) hb); clear BK131; clear BK135; clear HB; have BK131 := n0_; have BK135 := n1_; have HB := n2_; clear n0_ n1_ n2_; (try clear hb); (try clear hb2); (try clear hk); (try clear hi))); try go_wp2_with (first | (go_at_call 40; (with_reducible refine (mapmakerref07_Check.calls kj15 _ _ ((rd_T58 l0_2 x5_2).f5.f0) ((rd_T58 l0_2 x5_2).f5.f1) ((rd_T58 l0_2 x5_2).f5.f2) t136 _ ?side1 ?side2 A51.out).mono ?_); (case side1 => repeat (first | exact (Kd.C_below HR134_5.out HB.out) | (with_reducible refine Kd.C_alloc ?_ _) | (with_reducible refine Kd.C_drewN ?_ _) | (with_reducible refine Kd.C_drew ?_))); (case side2 => exact HC134_5.out); rintro e w55 ⟨rfl, hb⟩; have n0_ := Aside0.mk (blk_below (g := gb131) (o := .cells #[.slice A0_0 l0_0.length c0_0, .slice A0_1 l0_1.length c0_1, .slice (some ad134) l0_2.length c0_2] 37 (0, 0)) (by (with_reducible repeat (first | refine blk_drewN ?_ _ | refine blk_drew ?_ | refine blk_alloc ?_ _)); exact BK131.out) hb); have n1_ := Aside0.mk (blk_below (g := gb135) (o := .cells #[.int .i64 ((rd_T58 l0_2 x5_2).f0), .int .i64 ((rd_T58 l0_2 x5_2).f1), .int .i64 ((rd_T58 l0_2 x5_2).f2), .int .i64 ((rd_T58 l0_2 x5_2).f3), .int .i64 ((rd_T58 l0_2 x5_2).f4), .slice A134_5 ((rd_T58 l0_2 x5_2).f5.f0).length c134_5, .int .i64 ((rd_T58 l0_2 x5_2).f5.f1), .int .i64 ((rd_T58 l0_2 x5_2).f5.f2)] 58 (0, 0)) (by (with_reducible repeat (first | refine blk_drewN ?_ _ | refine blk_drew ?_ | refine blk_alloc ?_ _)); exact BK135.out) hb); have n2_ := Aside0.mk (below_step (by repeat (first | (with_reducible first | exact HB.out | apply below_alloc | apply pw_below_drewN | apply below_drew1 | refine below_set ?_ GE131.out | refine below_set ?_ GE135.out) | exact HB.out)) hb); clear BK131; clear BK135; clear HB; have BK131 := n0_; have BK135 := n1_; have HB := n2_; clear n0_ n1_ n2_; (try clear hb); (try clear hb2); (try clear hk); (try clear hi))))
                          go_roundg kj15
                          case measure => have := HK1.out; have := HK2.out; have := HJ15.out; omega
                          case rel => exact ⟨(wrap64 (x5_2 + 1)), (by first | rfl | (simp; done) | (simp [*]; done)), H', ⟨by have := HK1.out; have := HK2.out; have := HJ15.out; omega⟩, ⟨by (with_reducible repeat (first | refine blk_drewN ?_ _ | refine blk_drew ?_ | refine blk_alloc ?_ _)); exact BK131.out⟩, ⟨by repeat (first | (with_reducible first | exact HB.out | apply below_alloc | apply pw_below_drewN | apply below_drew1 | refine below_set ?_ GE131.out | refine below_set ?_ GE135.out) | exact HB.out)⟩⟩
                        · rw [if_neg c52] at H
                          have c52b0 : (t136 == 0) = false := beq_eq_false_iff_ne.mpr c52
                          have c52b1 : (t136 != 0) = true := bne_iff_ne.mpr c52
                          obtain rfl := Option.some.inj H
                          have hnb56 := NB135_131.out
                          have hnc56 := NB131_135.out
                          have hcz57_0 : wc.cell? ⟨gb135, 0, none⟩ = some (.int .i64 ((rd_T58 l0_2 x5_2).f0)) := (blk_cell BK135.out 0).trans rfl
                          have hcz57_1 : wc.cell? ⟨gb135, 1, none⟩ = some (.int .i64 ((rd_T58 l0_2 x5_2).f1)) := (blk_cell BK135.out 1).trans rfl
                          have hcz57_2 : wc.cell? ⟨gb135, 2, none⟩ = some (.int .i64 ((rd_T58 l0_2 x5_2).f2)) := (blk_cell BK135.out 2).trans rfl
                          have hcz57_3 : wc.cell? ⟨gb135, 3, none⟩ = some (.int .i64 ((rd_T58 l0_2 x5_2).f3)) := (blk_cell BK135.out 3).trans rfl
                          have hcz57_4 : wc.cell? ⟨gb135, 4, none⟩ = some (.int .i64 ((rd_T58 l0_2 x5_2).f4)) := (blk_cell BK135.out 4).trans rfl
                          have hcz57_5 : wc.cell? ⟨gb135, 5, none⟩ = some (.slice A134_5 ((rd_T58 l0_2 x5_2).f5.f0).length c134_5) := (blk_cell BK135.out 5).trans rfl
                          have hcz57_6 : wc.cell? ⟨gb135, 6, none⟩ = some (.int .i64 ((rd_T58 l0_2 x5_2).f5.f1)) := (blk_cell BK135.out 6).trans rfl
                          have hcz57_7 : wc.cell? ⟨gb135, 7, none⟩ = some (.int .i64 ((rd_T58 l0_2 x5_2).f5.f2)) := (blk_cell BK135.out 7).trans rfl
                          have hfz57_0 := blk_frozen BK135.out 0
                          have hfz57_1 := blk_frozen BK135.out 1
                          have hfz57_2 := blk_frozen BK135.out 2
                          have hfz57_3 := blk_frozen BK135.out 3
                          have hfz57_4 := blk_frozen BK135.out 4
                          have hfz57_5 := blk_frozen BK135.out 5
                          have hfz57_6 := blk_frozen BK135.out 6
                          have hfz57_7 := blk_frozen BK135.out 7
                          go_wp2_with (first | (go_at_call 40; (with_reducible refine (mapmakerref07_Check.calls kj15 _ _ ((rd_T58 l0_2 x5_2).f5.f0) ((rd_T58 l0_2 x5_2).f5.f1) ((rd_T58 l0_2 x5_2).f5.f2) t136 _ ?side1 ?side2 A51.out).mono ?_); (case side1 => repeat (first | exact (Kd.C_below HR134_5.out HB.out) | (with_reducible refine Kd.C_alloc ?_ _) | (with_reducible refine Kd.C_drewN ?_ _) | (with_reducible refine Kd.C_drew ?_))); (case side2 => exact HC134_5.out); rintro e w58 ⟨rfl, hb⟩; have n0_ := Aside0.mk (blk_below (g := gb131) (o := .cells #[.slice A0_0 l0_0.length c0_0, .slice A0_1 l0_1.length c0_1, .slice (some ad134) l0_2.length c0_2] 37 (0, 0)) (by (with_reducible repeat (first | refine blk_drewN ?_ _ | refine blk_drew ?_ | refine blk_alloc ?_ _)); exact BK131.out) hb); have n1_ := Aside0.mk (blk_below (g := gb135) (o := .cells #[.int .i64 ((rd_T58 l0_2 x5_2).f0), .int .i64 ((rd_T58 l0_2 x5_2).f1), .int .i64 ((rd_T58 l0_2 x5_2).f2), .int .i64 ((rd_T58 l0_2 x5_2).f3), .int .i64 ((rd_T58 l0_2 x5_2).f4), .slice A134_5 ((rd_T58 l0_2 x5_2).f5.f0).length c134_5, .int .i64 ((rd_T58 l0_2 x5_2).f5.f1), .int .i64 ((rd_T58 l0_2 x5_2).f5.f2)] 58 (0, 0)) (by (with_reducible repeat (first | refine blk_drewN ?_ _ | refine blk_drew ?_ | refine blk_alloc ?_ _)); exact BK135.out) hb); have n2_ := Aside0.mk (below_step (by repeat (first | (with_reducible first | exact HB.out | apply below_alloc | apply pw_below_drewN | apply below_drew1 | refine below_set ?_ GE131.out | refine below_set ?_ GE135.out) | exact HB.out)) hb); clear BK131; clear BK135; clear HB; have BK131 := n0_; have BK135 := n1_; have HB := n2_; clear n0_ n1_ n2_; (try clear hb); (try clear hb2); (try clear hk); (try clear hi)))
                          repeat (go_quiet (first | (go_at_call 40; (with_reducible refine (mapmakerref07_Check.calls kj15 _ _ ((rd_T58 l0_2 x5_2).f5.f0) ((rd_T58 l0_2 x5_2).f5.f1) ((rd_T58 l0_2 x5_2).f5.f2) t136 _ ?side1 ?side2 A51.out).mono ?_); (case side1 => repeat (first | exact (Kd.C_below HR134_5.out HB.out) | (with_reducible refine Kd.C_alloc ?_ _) | (with_reducible refine Kd.C_drewN ?_ _) | (with_reducible refine Kd.C_drew ?_))); (case side2 => exact HC134_5.out); rintro e w58 ⟨rfl, hb⟩; have n0_ := Aside0.mk (blk_below (g := gb131) (o := .cells #[.slice A0_0 l0_0.length c0_0, .slice A0_1 l0_1.length c0_1, .slice (some ad134) l0_2.length c0_2] 37 (0, 0)) (by (with_reducible repeat (first | refine blk_drewN ?_ _ | refine blk_drew ?_ | refine blk_alloc ?_ _)); exact BK131.out) hb); have n1_ := Aside0.mk (blk_below (g := gb135) (o := .cells #[.int .i64 ((rd_T58 l0_2 x5_2).f0), .int .i64 ((rd_T58 l0_2 x5_2).f1), .int .i64 ((rd_T58 l0_2 x5_2).f2), .int .i64 ((rd_T58 l0_2 x5_2).f3), .int .i64 ((rd_T58 l0_2 x5_2).f4), .slice A134_5 ((rd_T58 l0_2 x5_2).f5.f0).length c134_5, .int .i64 ((rd_T58 l0_2 x5_2).f5.f1), .int .i64 ((rd_T58 l0_2 x5_2).f5.f2)] 58 (0, 0)) (by (with_reducible repeat (first | refine blk_drewN ?_ _ | refine blk_drew ?_ | refine blk_alloc ?_ _)); exact BK135.out) hb); have n2_ := Aside0.mk (below_step (by repeat (first | (with_reducible first | exact HB.out | apply below_alloc | apply pw_below_drewN | apply below_drew1 | refine below_set ?_ GE131.out | refine below_set ?_ GE135.out) | exact HB.out)) hb); clear BK131; clear BK135; clear HB; have BK131 := n0_; have BK135 := n1_; have HB := n2_; clear n0_ n1_ n2_; (try clear hb); (try clear hb2); (try clear hk); (try clear hi))); try go_wp2_with (first | (go_at_call 40; (with_reducible refine (mapmakerref07_Check.calls kj15 _ _ ((rd_T58 l0_2 x5_2).f5.f0) ((rd_T58 l0_2 x5_2).f5.f1) ((rd_T58 l0_2 x5_2).f5.f2) t136 _ ?side1 ?side2 A51.out).mono ?_); (case side1 => repeat (first | exact (Kd.C_below HR134_5.out HB.out) | (with_reducible refine Kd.C_alloc ?_ _) | (with_reducible refine Kd.C_drewN ?_ _) | (with_reducible refine Kd.C_drew ?_))); (case side2 => exact HC134_5.out); rintro e w58 ⟨rfl, hb⟩; have n0_ := Aside0.mk (blk_below (g := gb131) (o := .cells #[.slice A0_0 l0_0.length c0_0, .slice A0_1 l0_1.length c0_1, .slice (some ad134) l0_2.length c0_2] 37 (0, 0)) (by (with_reducible repeat (first | refine blk_drewN ?_ _ | refine blk_drew ?_ | refine blk_alloc ?_ _)); exact BK131.out) hb); have n1_ := Aside0.mk (blk_below (g := gb135) (o := .cells #[.int .i64 ((rd_T58 l0_2 x5_2).f0), .int .i64 ((rd_T58 l0_2 x5_2).f1), .int .i64 ((rd_T58 l0_2 x5_2).f2), .int .i64 ((rd_T58 l0_2 x5_2).f3), .int .i64 ((rd_T58 l0_2 x5_2).f4), .slice A134_5 ((rd_T58 l0_2 x5_2).f5.f0).length c134_5, .int .i64 ((rd_T58 l0_2 x5_2).f5.f1), .int .i64 ((rd_T58 l0_2 x5_2).f5.f2)] 58 (0, 0)) (by (with_reducible repeat (first | refine blk_drewN ?_ _ | refine blk_drew ?_ | refine blk_alloc ?_ _)); exact BK135.out) hb); have n2_ := Aside0.mk (below_step (by repeat (first | (with_reducible first | exact HB.out | apply below_alloc | apply pw_below_drewN | apply below_drew1 | refine below_set ?_ GE131.out | refine below_set ?_ GE135.out) | exact HB.out)) hb); clear BK131; clear BK135; clear HB; have BK131 := n0_; have BK135 := n1_; have HB := n2_; clear n0_ n1_ n2_; (try clear hb); (try clear hb2); (try clear hk); (try clear hi))))
                          go_ret
                          exact ⟨by first | rfl | (simp [errW_none, errW_some] <;> rfl) | (simp [*, errW_none, errW_some] <;> rfl), by repeat (first | (with_reducible first | exact HB.out | apply below_alloc | apply pw_below_drewN | apply below_drew1 | refine below_set ?_ GE131.out | refine below_set ?_ GE135.out) | exact HB.out)⟩
                · rw [if_neg c15] at H
                  exact absurd H (by simp)
              · rw [if_neg c14] at H
                have c14b0 : decide (x5_2 < (l0_2.length : Int)) = false := decide_eq_false c14
                clear c14
                obtain rfl := Option.some.inj H
                have hcz59_0 : wr.cell? ⟨gb131, 0, none⟩ = some (.slice A0_0 l0_0.length c0_0) := (blk_cell BK131.out 0).trans rfl
                have hcz59_1 : wr.cell? ⟨gb131, 1, none⟩ = some (.slice A0_1 l0_1.length c0_1) := (blk_cell BK131.out 1).trans rfl
                have hcz59_2 : wr.cell? ⟨gb131, 2, none⟩ = some (.slice A0_2 l0_2.length c0_2) := (blk_cell BK131.out 2).trans rfl
                have hfz59_0 := blk_frozen BK131.out 0
                have hfz59_1 := blk_frozen BK131.out 1
                have hfz59_2 := blk_frozen BK131.out 2
                go_wp2
                repeat (go_quiet (fail); try go_wp2)
                go_ret
                exact ⟨by first | rfl | (simp [errW_none, errW_some] <;> rfl) | (simp [*, errW_none, errW_some] <;> rfl), by repeat (first | (with_reducible first | exact HB.out | apply below_alloc | apply pw_below_drewN | apply below_drew1 | refine below_set ?_ GE131.out) | exact HB.out)⟩
  · rw [if_neg c2] at H
    have c2b0 : ((l0_0.length : Int) == (l0_1.length : Int)) = false := beq_eq_false_iff_ne.mpr c2
    have c2b1 : ((l0_0.length : Int) != (l0_1.length : Int)) = true := bne_iff_ne.mpr c2
    have c2b2 : (l0_0.length == l0_1.length) = false := by first | simpa using c2 | (simp at c2 ⊢; omega)
    obtain rfl := Option.some.inj H
    go_enter Try.func20, Try.ntmps20
    go_wp2_with (first | ((with_reducible refine gate_dst (N := 1) rfl ?_); refine box_event ?hg (N := 1) ?hd (cs := #[.slice A0_0 l0_0.length c0_0, .slice A0_1 l0_1.length c0_1, .slice A0_2 l0_2.length c0_2]) (t := 37) ?hr ?_; (case hd => rfl); (case hg => rfl); (case hr => first | (go_simp; done) | (go_simp; rfl)); intro gb131 hg w60 hbox hb; have n0_ := Aside0.mk (below_step (by repeat (first | (with_reducible first | exact HB.out | apply below_alloc | apply pw_below_drewN | apply below_drew1) | exact HB.out)) hb); have n1_ := Aside0.mk (hbox); have n2_ := Aside0.mk ((by rw [hg]; exact (below_size (by repeat (first | (with_reducible first | exact HB.out | apply below_alloc | apply pw_below_drewN | apply below_drew1) | exact HB.out))) : w.heap.size ≤ gb131)); have n3_ := Aside0.mk ((by rw [hg]; exact (below_size (by repeat (first | (with_reducible first | exact HB.out | apply below_alloc | apply pw_below_drewN | apply below_drew1) | exact HB.out))) : w.heap.size ≤ gb131)); clear HB; have HB := n0_; have BK131 := n1_; have GW131 := n2_; have GE131 := n3_; clear n0_ n1_ n2_ n3_; clear hb hbox hg; have hcz61_0 : w60.cell? ⟨gb131, 0, none⟩ = some (.slice A0_0 l0_0.length c0_0) := (blk_cell BK131.out 0).trans rfl; have hcz61_1 : w60.cell? ⟨gb131, 1, none⟩ = some (.slice A0_1 l0_1.length c0_1) := (blk_cell BK131.out 1).trans rfl; have hcz61_2 : w60.cell? ⟨gb131, 2, none⟩ = some (.slice A0_2 l0_2.length c0_2) := (blk_cell BK131.out 2).trans rfl; have hfz61_0 := blk_frozen BK131.out 0; have hfz61_1 := blk_frozen BK131.out 1; have hfz61_2 := blk_frozen BK131.out 2))
    repeat (go_quiet (first | ((with_reducible refine gate_dst (N := 1) rfl ?_); refine box_event ?hg (N := 1) ?hd (cs := #[.slice A0_0 l0_0.length c0_0, .slice A0_1 l0_1.length c0_1, .slice A0_2 l0_2.length c0_2]) (t := 37) ?hr ?_; (case hd => rfl); (case hg => rfl); (case hr => first | (go_simp; done) | (go_simp; rfl)); intro gb131 hg w60 hbox hb; have n0_ := Aside0.mk (below_step (by repeat (first | (with_reducible first | exact HB.out | apply below_alloc | apply pw_below_drewN | apply below_drew1) | exact HB.out)) hb); have n1_ := Aside0.mk (hbox); have n2_ := Aside0.mk ((by rw [hg]; exact (below_size (by repeat (first | (with_reducible first | exact HB.out | apply below_alloc | apply pw_below_drewN | apply below_drew1) | exact HB.out))) : w.heap.size ≤ gb131)); have n3_ := Aside0.mk ((by rw [hg]; exact (below_size (by repeat (first | (with_reducible first | exact HB.out | apply below_alloc | apply pw_below_drewN | apply below_drew1) | exact HB.out))) : w.heap.size ≤ gb131)); clear HB; have HB := n0_; have BK131 := n1_; have GW131 := n2_; have GE131 := n3_; clear n0_ n1_ n2_ n3_; clear hb hbox hg; have hcz61_0 : w60.cell? ⟨gb131, 0, none⟩ = some (.slice A0_0 l0_0.length c0_0) := (blk_cell BK131.out 0).trans rfl; have hcz61_1 : w60.cell? ⟨gb131, 1, none⟩ = some (.slice A0_1 l0_1.length c0_1) := (blk_cell BK131.out 1).trans rfl; have hcz61_2 : w60.cell? ⟨gb131, 2, none⟩ = some (.slice A0_2 l0_2.length c0_2) := (blk_cell BK131.out 2).trans rfl; have hfz61_0 := blk_frozen BK131.out 0; have hfz61_1 := blk_frozen BK131.out 1; have hfz61_2 := blk_frozen BK131.out 2)); try go_wp2_with (first | ((with_reducible refine gate_dst (N := 1) rfl ?_); refine box_event ?hg (N := 1) ?hd (cs := #[.slice A0_0 l0_0.length c0_0, .slice A0_1 l0_1.length c0_1, .slice A0_2 l0_2.length c0_2]) (t := 37) ?hr ?_; (case hd => rfl); (case hg => rfl); (case hr => first | (go_simp; done) | (go_simp; rfl)); intro gb131 hg w60 hbox hb; have n0_ := Aside0.mk (below_step (by repeat (first | (with_reducible first | exact HB.out | apply below_alloc | apply pw_below_drewN | apply below_drew1) | exact HB.out)) hb); have n1_ := Aside0.mk (hbox); have n2_ := Aside0.mk ((by rw [hg]; exact (below_size (by repeat (first | (with_reducible first | exact HB.out | apply below_alloc | apply pw_below_drewN | apply below_drew1) | exact HB.out))) : w.heap.size ≤ gb131)); have n3_ := Aside0.mk ((by rw [hg]; exact (below_size (by repeat (first | (with_reducible first | exact HB.out | apply below_alloc | apply pw_below_drewN | apply below_drew1) | exact HB.out))) : w.heap.size ≤ gb131)); clear HB; have HB := n0_; have BK131 := n1_; have GW131 := n2_; have GE131 := n3_; clear n0_ n1_ n2_ n3_; clear hb hbox hg; have hcz61_0 : w60.cell? ⟨gb131, 0, none⟩ = some (.slice A0_0 l0_0.length c0_0) := (blk_cell BK131.out 0).trans rfl; have hcz61_1 : w60.cell? ⟨gb131, 1, none⟩ = some (.slice A0_1 l0_1.length c0_1) := (blk_cell BK131.out 1).trans rfl; have hcz61_2 : w60.cell? ⟨gb131, 2, none⟩ = some (.slice A0_2 l0_2.length c0_2) := (blk_cell BK131.out 2).trans rfl; have hfz61_0 := blk_frozen BK131.out 0; have hfz61_1 := blk_frozen BK131.out 1; have hfz61_2 := blk_frozen BK131.out 2)))
    go_ret
    exact ⟨by first | rfl | (simp [errW_none, errW_some] <;> rfl) | (simp [*, errW_none, errW_some] <;> rfl), by repeat (first | (with_reducible first | exact HB.out | apply below_alloc | apply pw_below_drewN | apply below_drew1 | refine below_set ?_ GE131.out) | exact HB.out)⟩

end Go.Proofs.Ytbkfjmpnbalkaaa.QTurnsAllows
