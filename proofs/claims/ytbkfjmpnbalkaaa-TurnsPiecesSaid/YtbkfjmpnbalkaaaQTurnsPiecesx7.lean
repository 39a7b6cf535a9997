-- Written by a program of this session (wip/ext.py) with the kit's print; Lean checks it.
import Derived.Test.YtbkfjmpnbalkaaaQTurnsPiecesx0
import Derived.Test.YtbkfjmpnbalkaaaQTurnsPiecesx5
namespace Go.Proofs.Ytbkfjmpnbalkaaa.QTurnsPieces
open Go.RowKit Go.Proofs.YtbkfjmpnbalkaaaW.PrintWords Go.Proofs.YtbkfjmpnbalkaaaW.PrintLast Go.Proofs.YtbkfjmpnbalkaaaW.PrintMore
attribute [local go_sem] max2_int min2_int max_two min_two max_three min_three max_four min_four   -- for this text's walks alone
set_option linter.unusedVariables false
set_option linter.unusedSimpArgs false

/-! ### Qz: function 25 -/
mutual
def Qz.l0 : Nat → Int → Int → List Int → Int → List Int → Int → Int → Int → List (S92) → Option (List Int × Bool)
 | 0, _, _, _, _, _, _, _, _, _ => none
 | k + 1, x9, x10, x11, x12, x25, x26, x27, x133000, x133001 => if x27 < x26 then (if 0 ≤ x27 then (if x27 < (x25.length : Int) then (if (rd x25 x27) < 0 then (Qz.j1 k x9 x10 x11 x12 x27 (rd x25 x27) x25 x26 x27 true x133000 x133001) else (Qz.j1 k x9 x10 x11 x12 x27 (rd x25 x27) x25 x26 x27 (decide ((rd x25 x27) ≥ (x133001.length : Int))) x133000 x133001)) else (none)) else (none)) else (if x12 < (wrap64 (x9 + x10)) then (some (([] : List Int), false)) else (some (x11, true)))
def Qz.j1 : Nat → Int → Int → List Int → Int → Int → Int → List Int → Int → Int → Bool → Int → List (S92) → Option (List Int × Bool)
 | 0, _, _, _, _, _, _, _, _, _, _, _, _ => none
 | k + 1, x9, x10, x11, x12, x13, x14, x25, x26, x27, x40, x133000, x133001 => if x40 = true then (some (([] : List Int), false)) else (if 0 ≤ x14 then (if x14 < (x133001.length : Int) then (if x13 = 0 then (if ((Qs x133001 x14).f0) < x9 then (Qz.j2 k x9 x10 x11 x25 x26 x27 true x133000 x133001 ((Qs x133001 x14).f0) ((Qs x133001 x14).f1)) else (if ((Qs x133001 x14).f0) ≥ (wrap64 (x9 + x10)) then (Qz.j2 k x9 x10 x11 x25 x26 x27 true x133000 x133001 ((Qs x133001 x14).f0) ((Qs x133001 x14).f1)) else (if x13 > 0 then (Qz.j2 k x9 x10 x11 x25 x26 x27 (((Qs x133001 x14).f0) != x12) x133000 x133001 ((Qs x133001 x14).f0) ((Qs x133001 x14).f1)) else (Qz.j2 k x9 x10 x11 x25 x26 x27 false x133000 x133001 ((Qs x133001 x14).f0) ((Qs x133001 x14).f1))))) else (if x13 > 0 then (Qz.j2 k x9 x10 x11 x25 x26 x27 (((Qs x133001 x14).f0) != x12) x133000 x133001 ((Qs x133001 x14).f0) ((Qs x133001 x14).f1)) else (Qz.j2 k x9 x10 x11 x25 x26 x27 false x133000 x133001 ((Qs x133001 x14).f0) ((Qs x133001 x14).f1)))) else (none)) else (none))
def Qz.j2 : Nat → Int → Int → List Int → List Int → Int → Int → Bool → Int → List (S92) → Int → Int → Option (List Int × Bool)
 | 0, _, _, _, _, _, _, _, _, _, _, _ => none
 | k + 1, x9, x10, x11, x25, x26, x27, x71, x133000, x133001, x136000, x136001 => if x71 = true then (some (([] : List Int), false)) else (if x136001 < x9 then (if x11.length < 17592186044416 then (Qz.l0 k x9 x10 (x11 ++ [x136001]) x136001 x25 x26 (wrap64 (x27 + 1)) x133000 x133001) else (none)) else (Qz.l0 k x9 x10 x11 x136001 x25 x26 (wrap64 (x27 + 1)) x133000 x133001))
end
def Qz.f (k : Nat) (l0_0 : List Int) (l0_1 : List (S158)) (l0_2 : List (S58)) (l1 : List Int) (l2 : List (S42)) : Option (List Int × Bool) := (Q3.f k l0_0 l0_1 l0_2 l2).bind fun bt128 => (Qz.l0 k (l0_2.length : Int) (l0_0.length : Int) ([] : List Int) (-1) l1 (l1.length : Int) 0 bt128.1 bt128.2)
theorem Qz.mono_l : ∀ k, (∀ y0 y1 y2 y3 y4 y5 y6 y7 y8, LeO (Qz.l0 k y0 y1 y2 y3 y4 y5 y6 y7 y8) (Qz.l0 (k + 1) y0 y1 y2 y3 y4 y5 y6 y7 y8)) ∧ (∀ y0 y1 y2 y3 y4 y5 y6 y7 y8 y9 y10 y11, LeO (Qz.j1 k y0 y1 y2 y3 y4 y5 y6 y7 y8 y9 y10 y11) (Qz.j1 (k + 1) y0 y1 y2 y3 y4 y5 y6 y7 y8 y9 y10 y11)) ∧ (∀ y0 y1 y2 y3 y4 y5 y6 y7 y8 y9 y10, LeO (Qz.j2 k y0 y1 y2 y3 y4 y5 y6 y7 y8 y9 y10) (Qz.j2 (k + 1) y0 y1 y2 y3 y4 y5 y6 y7 y8 y9 y10))
 | 0 => ⟨fun _ _ _ _ _ _ _ _ _ r h => by simp [Qz.l0] at h, fun _ _ _ _ _ _ _ _ _ _ _ _ r h => by simp [Qz.j1] at h, fun _ _ _ _ _ _ _ _ _ _ _ r h => by simp [Qz.j2] at h⟩
 | k + 1 => by
  obtain ⟨ih0, ih1, ih2⟩ := Qz.mono_l k
  refine ⟨?_, ?_, ?_⟩
  ·intro y0 y1 y2 y3 y4 y5 y6 y7 y8
   unfold Qz.l0
   repeat' first
   | (with_reducible exact ih0 _ _ _ _ _ _ _ _ _)
   | (with_reducible exact ih1 _ _ _ _ _ _ _ _ _ _ _ _)
   | (with_reducible exact ih2 _ _ _ _ _ _ _ _ _ _ _)
   | (with_reducible exact Q3.mono _ _ _ _ _)
   | (with_reducible exact LeO.refl _)
   | (with_reducible exact LeO.none _)
   | (with_reducible refine LeO.ite ?_ ?_)
   | (with_reducible refine LeO.bind ?_ (fun _ => ?_))
   | exact ih0 _ _ _ _ _ _ _ _ _
   | exact ih1 _ _ _ _ _ _ _ _ _ _ _ _
   | exact ih2 _ _ _ _ _ _ _ _ _ _ _
   | exact Q3.mono _ _ _ _ _
   | exact LeO.none _
   | refine LeO.ite ?_ ?_
   | refine LeO.bind ?_ (fun _ => ?_)
  ·intro y0 y1 y2 y3 y4 y5 y6 y7 y8 y9 y10 y11
   unfold Qz.j1
   repeat' first
   | (with_reducible exact ih0 _ _ _ _ _ _ _ _ _)
   | (with_reducible exact ih1 _ _ _ _ _ _ _ _ _ _ _ _)
   | (with_reducible exact ih2 _ _ _ _ _ _ _ _ _ _ _)
   | (with_reducible exact Q3.mono _ _ _ _ _)
   | (with_reducible exact LeO.refl _)
   | (with_reducible exact LeO.none _)
   | (with_reducible refine LeO.ite ?_ ?_)
   | (with_reducible refine LeO.bind ?_ (fun _ => ?_))
   | exact ih0 _ _ _ _ _ _ _ _ _
   | exact ih1 _ _ _ _ _ _ _ _ _ _ _ _
   | exact ih2 _ _ _ _ _ _ _ _ _ _ _
   | exact Q3.mono _ _ _ _ _
   | exact LeO.none _
   | refine LeO.ite ?_ ?_
   | refine LeO.bind ?_ (fun _ => ?_)
  ·intro y0 y1 y2 y3 y4 y5 y6 y7 y8 y9 y10
   unfold Qz.j2
   repeat' first
   | (with_reducible exact ih0 _ _ _ _ _ _ _ _ _)
   | (with_reducible exact ih1 _ _ _ _ _ _ _ _ _ _ _ _)
   | (with_reducible exact ih2 _ _ _ _ _ _ _ _ _ _ _)
   | (with_reducible exact Q3.mono _ _ _ _ _)
   | (with_reducible exact LeO.refl _)
   | (with_reducible exact LeO.none _)
   | (with_reducible refine LeO.ite ?_ ?_)
   | (with_reducible refine LeO.bind ?_ (fun _ => ?_))
   | exact ih0 _ _ _ _ _ _ _ _ _
   | exact ih1 _ _ _ _ _ _ _ _ _ _ _ _
   | exact ih2 _ _ _ _ _ _ _ _ _ _ _
   | exact Q3.mono _ _ _ _ _
   | exact LeO.none _
   | refine LeO.ite ?_ ?_
   | refine LeO.bind ?_ (fun _ => ?_)
theorem Qz.mono : ∀ a0 a1 a2 a3 a4 k, LeO (Qz.f k a0 a1 a2 a3 a4) (Qz.f (k + 1) a0 a1 a2 a3 a4) := by
 intro a0 a1 a2 a3 a4 k
 obtain ⟨ih0, ih1, ih2⟩ := Qz.mono_l k
 unfold Qz.f
 repeat' first
   | (with_reducible exact ih0 _ _ _ _ _ _ _ _ _)
   | (with_reducible exact ih1 _ _ _ _ _ _ _ _ _ _ _ _)
   | (with_reducible exact ih2 _ _ _ _ _ _ _ _ _ _ _)
   | (with_reducible exact Q3.mono _ _ _ _ _)
   | (with_reducible exact LeO.refl _)
   | (with_reducible exact LeO.none _)
   | (with_reducible refine LeO.ite ?_ ?_)
   | (with_reducible refine LeO.bind ?_ (fun _ => ?_))
   | exact ih0 _ _ _ _ _ _ _ _ _
   | exact ih1 _ _ _ _ _ _ _ _ _ _ _ _
   | exact ih2 _ _ _ _ _ _ _ _ _ _ _
   | exact Q3.mono _ _ _ _ _
   | exact LeO.none _
   | refine LeO.ite ?_ ?_
   | refine LeO.bind ?_ (fun _ => ?_)
set_option maxHeartbeats 8000000 in
set_option maxRecDepth 100000 in
theorem Qz.calls (k : Nat) (A0_0 : Option Addr) (c0_0 : Nat) (l0_0 : List Int) (A0_1 : Option Addr) (c0_1 : Nat) (l0_1 : List (S158)) (A0_2 : Option Addr) (c0_2 : Nat) (l0_2 : List (S58)) (A1 : Option Addr) (c1 : Nat) (l1 : List Int) (A2 : Option Addr) (c2 : Nat) (l2 : List (S42)) (r1 : List Int) (r2 : Bool) (w : World) (hr0_0 : Kd.C (Kd.int .i64) w A0_0 l0_0.length l0_0) (hc0_0 : l0_0.length ≤ c0_0) (hr0_1 : Kd.C k158 w A0_1 l0_1.length l0_1) (hc0_1 : l0_1.length ≤ c0_1) (hr0_2 : Kd.C k58 w A0_2 l0_2.length l0_2) (hc0_2 : l0_2.length ≤ c0_2) (hr1 : Kd.C (Kd.int .i64) w A1 l1.length l1) (hc1 : l1.length ≤ c1) (hr2 : Kd.C k42 w A2 l2.length l2) (hc2 : l2.length ≤ c2) (h : Qz.f k l0_0 l0_1 l0_2 l1 l2 = some (r1, r2)) :
  Calls Try.prog 25 #[.agg #[.slice A0_0 l0_0.length c0_0, .slice A0_1 l0_1.length c0_1, .slice A0_2 l0_2.length c0_2], .slice A1 l1.length c1, .slice A2 l2.length c2] w fun e w' => ∃ v0_ : Value, e = .returned (.tuple #[v0_, .bool r2]) ∧ Kd.R (Kd.int .i64) 3 w' w.heap.size (fun _ => True) v0_ r1 ∧ Below w.heap.size w w' := by
 have hu37 := Try.underlying37
 have hu51 := Try.underlying51
 have hu92 := Try.underlying92
 have HR0_0 := Qf.mk hr0_0
 have HC0_0 := Qf.mk hc0_0
 clear hr0_0 hc0_0
 have HR0_1 := Qf.mk hr0_1
 have HC0_1 := Qf.mk hc0_1
 clear hr0_1 hc0_1
 have HR0_2 := Qf.mk hr0_2
 have HC0_2 := Qf.mk hc0_2
 clear hr0_2 hc0_2
 have HR1 := Qf.mk hr1
 have HC1 := Qf.mk hc1
 clear hr1 hc1
 have HR2 := Qf.mk hr2
 have HC2 := Qf.mk hc2
 clear hr2 hc2
 have HB := Qf.mk (Below.refl w.heap.size w)
 have H : ((Q3.f k l0_0 l0_1 l0_2 l2).bind fun bt128 => (Qz.l0 k (l0_2.length : Int) (l0_0.length : Int) ([] : List Int) (-1) l1 (l1.length : Int) 0 bt128.1 bt128.2)) = some (r1, r2) := h
 clear h
 replace H := Option.bind_eq_some_iff.mp H
 obtain ⟨⟨t128, t129⟩, A40, H⟩ := H
 replace H : (Qz.l0 k (l0_2.length : Int) (l0_0.length : Int) ([] : List Int) (-1) l1 (l1.length : Int) 0 t128 t129) = some (r1, r2) := H
 have A4 := Qf.mk A40
 clear A40
 have H' := Qf.mk H
 clear H
 go_enter Try.func25, Try.ntmps25
 go_wp2_with (first | ((with_reducible refine QM (N := 3) rfl ?_); (try (refine Q5 (by rfl) ?_; dsimp only)); refine QI ?hg (N := 3) ?hd (cs := #[.slice A0_0 l0_0.length c0_0, .slice A0_1 l0_1.length c0_1, .slice A0_2 l0_2.length c0_2]) (t := 37) ?hr ?_; (case hd => rfl); (case hg => rfl); (case hr => first | (go_simp; done) | (go_simp; rfl)); intro gb127 hg w5 hbox hb; have n0_ := Qf.mk (Qo (by repeat (first | (with_reducible first | exact HB.out | apply Qi | apply Qa | apply Qj) | exact HB.out)) hb); have n1_ := Qf.mk (hbox); have n2_ := Qf.mk ((by rw [hg]; exact (Qp (by repeat (first | (with_reducible first | exact HB.out | apply Qi | apply Qa | apply Qj) | exact HB.out))) : w.heap.size ≤ gb127)); have n3_ := Qf.mk ((by rw [hg]; exact (Qp (by repeat (first | (with_reducible first | exact HB.out | apply Qi | apply Qa | apply Qj) | exact HB.out))) : w.heap.size ≤ gb127)); clear HB; have HB := n0_; have BK127 := n1_; have GW127 := n2_; have GE127 := n3_; clear n0_ n1_ n2_ n3_; clear hb hbox hg; have hcz6_0 : w5.cell? ⟨gb127, 0, none⟩ = some (.slice A0_0 l0_0.length c0_0) := (Qe BK127.out 0).trans rfl; have hcz6_1 : w5.cell? ⟨gb127, 1, none⟩ = some (.slice A0_1 l0_1.length c0_1) := (Qe BK127.out 1).trans rfl; have hcz6_2 : w5.cell? ⟨gb127, 2, none⟩ = some (.slice A0_2 l0_2.length c0_2) := (Qe BK127.out 2).trans rfl; have hfz6_0 := Qc BK127.out 0; have hfz6_1 := Qc BK127.out 1; have hfz6_2 := Qc BK127.out 2) | (go_at_call 23; (with_reducible refine (Q3.calls k _ _ l0_0 _ _ l0_1 _ _ l0_2 _ _ l2 t128 t129 _ ?side1 ?side2 ?side3 ?side4 ?side5 ?side6 ?side7 ?side8 A4.out).mono ?_); (case side1 => repeat (first | exact (Kd.Qr HR0_0.out HB.out) | (with_reducible refine Kd.QG ?_ _) | (with_reducible refine Kd.QH ?_ _) | (with_reducible refine Kd.QO ?_))); (case side2 => exact HC0_0.out); (case side3 => repeat (first | exact (Kd.Qr HR0_1.out HB.out) | (with_reducible refine Kd.QG ?_ _) | (with_reducible refine Kd.QH ?_ _) | (with_reducible refine Kd.QO ?_))); (case side4 => exact HC0_1.out); (case side5 => repeat (first | exact (Kd.Qr HR0_2.out HB.out) | (with_reducible refine Kd.QG ?_ _) | (with_reducible refine Kd.QH ?_ _) | (with_reducible refine Kd.QO ?_))); (case side6 => exact HC0_2.out); (case side7 => repeat (first | exact (Kd.Qr HR2.out HB.out) | (with_reducible refine Kd.QG ?_ _) | (with_reducible refine Kd.QH ?_ _) | (with_reducible refine Kd.QO ?_))); (case side8 => exact HC2.out); rintro e w7 ⟨v130, rfl, ho0, hb⟩; have n0_ := Qf.mk (Kd.R_lower ho0 (Qp (by repeat (first | (with_reducible first | exact HB.out | apply Qi | apply Qa | apply Qj | refine Qk ?_ GE127.out) | exact HB.out)))); have n1_ := Qf.mk (QF (g := gb127) (o := .cells #[.slice A0_0 l0_0.length c0_0, .slice A0_1 l0_1.length c0_1, .slice A0_2 l0_2.length c0_2] 37 (0, 0)) (by (with_reducible repeat (first | refine Qd ?_ _ | refine Qg ?_ | refine Qb ?_ _)); exact BK127.out) hb); have n2_ := Qf.mk (Qo (by repeat (first | (with_reducible first | exact HB.out | apply Qi | apply Qa | apply Qj | refine Qk ?_ GE127.out) | exact HB.out)) hb); clear BK127; clear HB; have HO131 := n0_; have BK127 := n1_; have HB := n2_; clear n0_ n1_ n2_; (try clear hb); (try clear hb2); (try clear hk); (try clear hi); (try clear ho0)) | ((with_reducible refine QM (N := 8) rfl ?_); (try (refine Q5 (by rfl) ?_; dsimp only)); refine QI ?hg (N := 8) ?hd (cs := #[.int .i64 0, .slice none 0 0]) (t := 51) ?hr ?_; (case hd => rfl); (case hg => rfl); (case hr => first | (go_simp; done) | (go_simp; rfl)); intro gb132 hg w8 hbox hb; have n0_ := Qf.mk (Kd.R_below (by (with_reducible repeat (first | apply Kd.QP | apply Kd.QQ | apply Kd.QT)); exact HO131.out) hb); have n1_ := Qf.mk (QF (g := gb127) (o := .cells #[.slice A0_0 l0_0.length c0_0, .slice A0_1 l0_1.length c0_1, .slice A0_2 l0_2.length c0_2] 37 (0, 0)) (by (with_reducible repeat (first | refine Qd ?_ _ | refine Qg ?_ | refine Qb ?_ _)); exact BK127.out) hb); have n2_ := Qf.mk (Qo (by repeat (first | (with_reducible first | exact HB.out | apply Qi | apply Qa | apply Qj | refine Qk ?_ GE127.out) | exact HB.out)) hb); have n3_ := Qf.mk (hbox); have n4_ := Qf.mk ((by rw [hg]; exact (Qp (by repeat (first | (with_reducible first | exact HB.out | apply Qi | apply Qa | apply Qj | refine Qk ?_ GE127.out) | exact HB.out))) : w.heap.size ≤ gb132)); have n5_ := Qf.mk ((by rw [hg]; exact (Qp (by repeat (first | (with_reducible first | exact HB.out | apply Qi | apply Qa | apply Qj | refine Qk ?_ GE127.out) | exact HB.out))) : w.heap.size ≤ gb132)); have n6_ := Qf.mk ((by rw [hg]; exact Nat.ne_of_lt (QR (g := gb127) (o := .cells #[.slice A0_0 l0_0.length c0_0, .slice A0_1 l0_1.length c0_1, .slice A0_2 l0_2.length c0_2] 37 (0, 0)) (by (with_reducible repeat (first | refine Qd ?_ _ | refine Qg ?_ | refine Qb ?_ _)); exact BK127.out)) : gb127 ≠ gb132)); have n7_ := Qf.mk ((by rw [hg]; exact Nat.ne_of_gt (QR (g := gb127) (o := .cells #[.slice A0_0 l0_0.length c0_0, .slice A0_1 l0_1.length c0_1, .slice A0_2 l0_2.length c0_2] 37 (0, 0)) (by (with_reducible repeat (first | refine Qd ?_ _ | refine Qg ?_ | refine Qb ?_ _)); exact BK127.out)) : gb132 ≠ gb127)); clear HO131; clear BK127; clear HB; have HO131 := n0_; have BK127 := n1_; have HB := n2_; have BK132 := n3_; have GW132 := n4_; have GE132 := n5_; have NB127_132 := n6_; have NB132_127 := n7_; clear n0_ n1_ n2_ n3_ n4_ n5_ n6_ n7_; clear hb hbox hg; have hnb9 := NB132_127.out; have hnc9 := NB127_132.out; have hcz10_0 : w8.cell? ⟨gb132, 0, none⟩ = some (.int .i64 0) := (Qe BK132.out 0).trans rfl; have hcz10_1 : w8.cell? ⟨gb132, 1, none⟩ = some (.slice none 0 0) := (Qe BK132.out 1).trans rfl; have hfz10_0 := Qc BK132.out 0; have hfz10_1 := Qc BK132.out 1; obtain ⟨Ao11, co11, eo11⟩ := Kd.R_slice HO131.out; subst eo11; have hcz12_0 : w8.cell? ⟨gb127, 0, none⟩ = some (.slice A0_0 l0_0.length c0_0) := (Qe BK127.out 0).trans rfl; have hcz12_1 : w8.cell? ⟨gb127, 1, none⟩ = some (.slice A0_1 l0_1.length c0_1) := (Qe BK127.out 1).trans rfl; have hcz12_2 : w8.cell? ⟨gb127, 2, none⟩ = some (.slice A0_2 l0_2.length c0_2) := (Qe BK127.out 2).trans rfl; have hfz12_0 := Qc BK127.out 0; have hfz12_1 := Qc BK127.out 1; have hfz12_2 := Qc BK127.out 2))
 repeat (go_quiet (first | ((with_reducible refine QM (N := 3) rfl ?_); (try (refine Q5 (by rfl) ?_; dsimp only)); refine QI ?hg (N := 3) ?hd (cs := #[.slice A0_0 l0_0.length c0_0, .slice A0_1 l0_1.length c0_1, .slice A0_2 l0_2.length c0_2]) (t := 37) ?hr ?_; (case hd => rfl); (case hg => rfl); (case hr => first | (go_simp; done) | (go_simp; rfl)); intro gb127 hg w5 hbox hb; have n0_ := Qf.mk (Qo (by repeat (first | (with_reducible first | exact HB.out | apply Qi | apply Qa | apply Qj) | exact HB.out)) hb); have n1_ := Qf.mk (hbox); have n2_ := Qf.mk ((by rw [hg]; exact (Qp (by repeat (first | (with_reducible first | exact HB.out | apply Qi | apply Qa | apply Qj) | exact HB.out))) : w.heap.size ≤ gb127)); have n3_ := Qf.mk ((by rw [hg]; exact (Qp (by repeat (first | (with_reducible first | exact HB.out | apply Qi | apply Qa | apply Qj) | exact HB.out))) : w.heap.size ≤ gb127)); clear HB; have HB := n0_; have BK127 := n1_; have GW127 := n2_; have GE127 := n3_; clear n0_ n1_ n2_ n3_; clear hb hbox hg; have hcz6_0 : w5.cell? ⟨gb127, 0, none⟩ = some (.slice A0_0 l0_0.length c0_0) := (Qe BK127.out 0).trans rfl; have hcz6_1 : w5.cell? ⟨gb127, 1, none⟩ = some (.slice A0_1 l0_1.length c0_1) := (Qe BK127.out 1).trans rfl; have hcz6_2 : w5.cell? ⟨gb127, 2, none⟩ = some (.slice A0_2 l0_2.length c0_2) := (Qe BK127.out 2).trans rfl; have hfz6_0 := Qc BK127.out 0; have hfz6_1 := Qc BK127.out 1; have hfz6_2 := Qc BK127.out 2) | (go_at_call 23; (with_reducible refine (Q3.calls k _ _ l0_0 _ _ l0_1 _ _ l0_2 _ _ l2 t128 t129 _ ?side1 ?side2 ?side3 ?side4 ?side5 ?side6 ?side7 ?side8 A4.out).mono ?_); (case side1 => repeat (first | exact (Kd.Qr HR0_0.out HB.out) | (with_reducible refine Kd.QG ?_ _) | (with_reducible refine Kd.QH ?_ _) | (with_reducible refine Kd.QO ?_))); (case side2 => exact HC0_0.out); (case side3 => repeat (first | exact (Kd.Qr HR0_1.out HB.out) | (with_reducible refine Kd.QG ?_ _) | (with_reducible refine Kd.QH ?_ _) | (with_reducible refine Kd.QO ?_))); (case side4 => exact HC0_1.out); (case side5 => repeat (first | exact (Kd.Qr HR0_2.out HB.out) | (with_reducible refine Kd.QG ?_ _) | (with_reducible refine Kd.QH ?_ _) | (with_reducible refine Kd.QO ?_))); (case side6 => exact HC0_2.out); (case side7 => repeat (first | exact (Kd.Qr HR2.out HB.out) | (with_reducible refine Kd.QG ?_ _) | (with_reducible refine Kd.QH ?_ _) | (with_reducible refine Kd.QO ?_))); (case side8 => exact HC2.out); rintro e w7 ⟨v130, rfl, ho0, hb⟩; have n0_ := Qf.mk (Kd.R_lower ho0 (Qp (by repeat (first | (with_reducible first | exact HB.out | apply Qi | apply Qa | apply Qj | refine Qk ?_ GE127.out) | exact HB.out)))); have n1_ := Qf.mk (QF (g := gb127) (o := .cells #[.slice A0_0 l0_0.length c0_0, .slice A0_1 l0_1.length c0_1, .slice A0_2 l0_2.length c0_2] 37 (0, 0)) (by (with_reducible repeat (first | refine Qd ?_ _ | refine Qg ?_ | refine Qb ?_ _)); exact BK127.out) hb); have n2_ := Qf.mk (Qo (by repeat (first | (with_reducible first | exact HB.out | apply Qi | apply Qa | apply Qj | refine Qk ?_ GE127.out) | exact HB.out)) hb); clear BK127; clear HB; have HO131 := n0_; have BK127 := n1_; have HB := n2_; clear n0_ n1_ n2_; (try clear hb); (try clear hb2); (try clear hk); (try clear hi); (try clear ho0)) | ((with_reducible refine QM (N := 8) rfl ?_); (try (refine Q5 (by rfl) ?_; dsimp only)); refine QI ?hg (N := 8) ?hd (cs := #[.int .i64 0, .slice none 0 0]) (t := 51) ?hr ?_; (case hd => rfl); (case hg => rfl); (case hr => first | (go_simp; done) | (go_simp; rfl)); intro gb132 hg w8 hbox hb; have n0_ := Qf.mk (Kd.R_below (by (with_reducible repeat (first | apply Kd.QP | apply Kd.QQ | apply Kd.QT)); exact HO131.out) hb); have n1_ := Qf.mk (QF (g := gb127) (o := .cells #[.slice A0_0 l0_0.length c0_0, .slice A0_1 l0_1.length c0_1, .slice A0_2 l0_2.length c0_2] 37 (0, 0)) (by (with_reducible repeat (first | refine Qd ?_ _ | refine Qg ?_ | refine Qb ?_ _)); exact BK127.out) hb); have n2_ := Qf.mk (Qo (by repeat (first | (with_reducible first | exact HB.out | apply Qi | apply Qa | apply Qj | refine Qk ?_ GE127.out) | exact HB.out)) hb); have n3_ := Qf.mk (hbox); have n4_ := Qf.mk ((by rw [hg]; exact (Qp (by repeat (first | (with_reducible first | exact HB.out | apply Qi | apply Qa | apply Qj | refine Qk ?_ GE127.out) | exact HB.out))) : w.heap.size ≤ gb132)); have n5_ := Qf.mk ((by rw [hg]; exact (Qp (by repeat (first | (with_reducible first | exact HB.out | apply Qi | apply Qa | apply Qj | refine Qk ?_ GE127.out) | exact HB.out))) : w.heap.size ≤ gb132)); have n6_ := Qf.mk ((by rw [hg]; exact Nat.ne_of_lt (QR (g := gb127) (o := .cells #[.slice A0_0 l0_0.length c0_0, .slice A0_1 l0_1.length c0_1, .slice A0_2 l0_2.length c0_2] 37 (0, 0)) (by (with_reducible repeat (first | refine Qd ?_ _ | refine Qg ?_ | refine Qb ?_ _)); exact BK127.out)) : gb127 ≠ gb132)); have n7_ := Qf.mk ((by rw [hg]; exact Nat.ne_of_gt (QR (g := gb127) (o := .cells #[.slice A0_0 l0_0.length c0_0, .slice A0_1 l0_1.length c0_1, .slice A0_2 l0_2.length c0_2] 37 (0, 0)) (by (with_reducible repeat (first | refine Qd ?_ _ | refine Qg ?_ | refine Qb ?_ _)); exact BK127.out)) : gb132 ≠ gb127)); clear HO131; clear BK127; clear HB; have HO131 := n0_; have BK127 := n1_; have HB := n2_; have BK132 := n3_; have GW132 := n4_; have GE132 := n5_; have NB127_132 := n6_; have NB132_127 := n7_; clear n0_ n1_ n2_ n3_ n4_ n5_ n6_ n7_; clear hb hbox hg; have hnb9 := NB132_127.out; have hnc9 := NB127_132.out; have hcz10_0 : w8.cell? ⟨gb132, 0, none⟩ = some (.int .i64 0) := (Qe BK132.out 0).trans rfl; have hcz10_1 : w8.cell? ⟨gb132, 1, none⟩ = some (.slice none 0 0) := (Qe BK132.out 1).trans rfl; have hfz10_0 := Qc BK132.out 0; have hfz10_1 := Qc BK132.out 1; obtain ⟨Ao11, co11, eo11⟩ := Kd.R_slice HO131.out; subst eo11; have hcz12_0 : w8.cell? ⟨gb127, 0, none⟩ = some (.slice A0_0 l0_0.length c0_0) := (Qe BK127.out 0).trans rfl; have hcz12_1 : w8.cell? ⟨gb127, 1, none⟩ = some (.slice A0_1 l0_1.length c0_1) := (Qe BK127.out 1).trans rfl; have hcz12_2 : w8.cell? ⟨gb127, 2, none⟩ = some (.slice A0_2 l0_2.length c0_2) := (Qe BK127.out 2).trans rfl; have hfz12_0 := Qc BK127.out 0; have hfz12_1 := Qc BK127.out 1; have hfz12_2 := Qc BK127.out 2)); try go_wp2_with (first | ((with_reducible refine QM (N := 3) rfl ?_); (try (refine Q5 (by rfl) ?_; dsimp only)); refine QI ?hg (N := 3) ?hd (cs := #[.slice A0_0 l0_0.length c0_0, .slice A0_1 l0_1.length c0_1, .slice A0_2 l0_2.length c0_2]) (t := 37) ?hr ?_; (case hd => rfl); (case hg => rfl); (case hr => first | (go_simp; done) | (go_simp; rfl)); intro gb127 hg w5 hbox hb; have n0_ := Qf.mk (Qo (by repeat (first | (with_reducible first | exact HB.out | apply Qi | apply Qa | apply Qj) | exact HB.out)) hb); have n1_ := Qf.mk (hbox); have n2_ := Qf.mk ((by rw [hg]; exact (Qp (by repeat (first | (with_reducible first | exact HB.out | apply Qi | apply Qa | apply Qj) | exact HB.out))) : w.heap.size ≤ gb127)); have n3_ := Qf.mk ((by rw [hg]; exact (Qp (by repeat (first | (with_reducible first | exact HB.out | apply Qi | apply Qa | apply Qj) | exact HB.out))) : w.heap.size ≤ gb127)); clear HB; have HB := n0_; have BK127 := n1_; have GW127 := n2_; have GE127 := n3_; clear n0_ n1_ n2_ n3_; clear hb hbox hg; have hcz6_0 : w5.cell? ⟨gb127, 0, none⟩ = some (.slice A0_0 l0_0.length c0_0) := (Qe BK127.out 0).trans rfl; have hcz6_1 : w5.cell? ⟨gb127, 1, none⟩ = some (.slice A0_1 l0_1.length c0_1) := (Qe BK127.out 1).trans rfl; have hcz6_2 : w5.cell? ⟨gb127, 2, none⟩ = some (.slice A0_2 l0_2.length c0_2) := (Qe BK127.out 2).trans rfl; have hfz6_0 := Qc BK127.out 0; have hfz6_1 := Qc BK127.out 1; have hfz6_2 := Qc BK127.out 2) | (go_at_call 23; (with_reducible refine (Q3.calls k _ _ l0_0 _ _ l0_1 _ _ l0_2 _ _ l2 t128 t129 _ ?side1 ?side2 ?side3 ?side4 ?side5 ?side6 ?side7 ?side8 A4.out).mono ?_); (case side1 => repeat (first | exact (Kd.Qr HR0_0.out HB.out) | (with_reducible refine Kd.QG ?_ _) | (with_reducible refine Kd.QH ?_ _) | (with_reducible refine Kd.QO ?_))); (case side2 => exact HC0_0.out); (case side3 => repeat (first | exact (Kd.Qr HR0_1.out HB.out) | (with_reducible refine Kd.QG ?_ _) | (with_reducible refine Kd.QH ?_ _) | (with_reducible refine Kd.QO ?_))); (case side4 => exact HC0_1.out); (case side5 => repeat (first | exact (Kd.Qr HR0_2.out HB.out) | (with_reducible refine Kd.QG ?_ _) | (with_reducible refine Kd.QH ?_ _) | (with_reducible refine Kd.QO ?_))); (case side6 => exact HC0_2.out); (case side7 => repeat (first | exact (Kd.Qr HR2.out HB.out) | (with_reducible refine Kd.QG ?_ _) | (with_reducible refine Kd.QH ?_ _) | (with_reducible refine Kd.QO ?_))); (case side8 => exact HC2.out); rintro e w7 ⟨v130, rfl, ho0, hb⟩; have n0_ := Qf.mk (Kd.R_lower ho0 (Qp (by repeat (first | (with_reducible first | exact HB.out | apply Qi | apply Qa | apply Qj | refine Qk ?_ GE127.out) | exact HB.out)))); have n1_ := Qf.mk (QF (g := gb127) (o := .cells #[.slice A0_0 l0_0.length c0_0, .slice A0_1 l0_1.length c0_1, .slice A0_2 l0_2.length c0_2] 37 (0, 0)) (by (with_reducible repeat (first | refine Qd ?_ _ | refine Qg ?_ | refine Qb ?_ _)); exact BK127.out) hb); have n2_ := Qf.mk (Qo (by repeat (first | (with_reducible first | exact HB.out | apply Qi | apply Qa | apply Qj | refine Qk ?_ GE127.out) | exact HB.out)) hb); clear BK127; clear HB; have HO131 := n0_; have BK127 := n1_; have HB := n2_; clear n0_ n1_ n2_; (try clear hb); (try clear hb2); (try clear hk); (try clear hi); (try clear ho0)) | ((with_reducible refine QM (N := 8) rfl ?_); (try (refine Q5 (by rfl) ?_; dsimp only)); refine QI ?hg (N := 8) ?hd (cs := #[.int .i64 0, .slice none 0 0]) (t := 51) ?hr ?_; (case hd => rfl); (case hg => rfl); (case hr => first | (go_simp; done) | (go_simp; rfl)); intro gb132 hg w8 hbox hb; have n0_ := Qf.mk (Kd.R_below (by (with_reducible repeat (first | apply Kd.QP | apply Kd.QQ | apply Kd.QT)); exact HO131.out) hb); have n1_ := Qf.mk (QF (g := gb127) (o := .cells #[.slice A0_0 l0_0.length c0_0, .slice A0_1 l0_1.length c0_1, .slice A0_2 l0_2.length c0_2] 37 (0, 0)) (by (with_reducible repeat (first | refine Qd ?_ _ | refine Qg ?_ | refine Qb ?_ _)); exact BK127.out) hb); have n2_ := Qf.mk (Qo (by repeat (first | (with_reducible first | exact HB.out | apply Qi | apply Qa | apply Qj | refine Qk ?_ GE127.out) | exact HB.out)) hb); have n3_ := Qf.mk (hbox); have n4_ := Qf.mk ((by rw [hg]; exact (Qp (by repeat (first | (with_reducible first | exact HB.out | apply Qi | apply Qa | apply Qj | refine Qk ?_ GE127.out) | exact HB.out))) : w.heap.size ≤ gb132)); have n5_ := Qf.mk ((by rw [hg]; exact (Qp (by repeat (first | (with_reducible first | exact HB.out | apply Qi | apply Qa | apply Qj | refine Qk ?_ GE127.out) | exact HB.out))) : w.heap.size ≤ gb132)); have n6_ := Qf.mk ((by rw [hg]; exact Nat.ne_of_lt (QR (g := gb127) (o := .cells #[.slice A0_0 l0_0.length c0_0, .slice A0_1 l0_1.length c0_1, .slice A0_2 l0_2.length c0_2] 37 (0, 0)) (by (with_reducible repeat (first | refine Qd ?_ _ | refine Qg ?_ | refine Qb ?_ _)); exact BK127.out)) : gb127 ≠ gb132)); have n7_ := Qf.mk ((by rw [hg]; exact Nat.ne_of_gt (QR (g := gb127) (o := .cells #[.slice A0_0 l0_0.length c0_0, .slice A0_1 l0_1.length c0_1, .slice A0_2 l0_2.length c0_2] 37 (0, 0)) (by (with_reducible repeat (first | refine Qd ?_ _ | refine Qg ?_ | refine Qb ?_ _)); exact BK127.out)) : gb132 ≠ gb127)); clear HO131; clear BK127; clear HB; have HO131 := n0_; have BK127 := n1_; have HB := n2_; have BK132 := n3_; have GW132 := n4_; have GE132 := n5_; have NB127_132 := n6_; have NB132_127 := n7_; clear n0_ n1_ n2_ n3_ n4_ n5_ n6_ n7_; clear hb hbox hg; have hnb9 := NB132_127.out; have hnc9 := NB127_132.out; have hcz10_0 : w8.cell? ⟨gb132, 0, none⟩ = some (.int .i64 0) := (Qe BK132.out 0).trans rfl; have hcz10_1 : w8.cell? ⟨gb132, 1, none⟩ = some (.slice none 0 0) := (Qe BK132.out 1).trans rfl; have hfz10_0 := Qc BK132.out 0; have hfz10_1 := Qc BK132.out 1; obtain ⟨Ao11, co11, eo11⟩ := Kd.R_slice HO131.out; subst eo11; have hcz12_0 : w8.cell? ⟨gb127, 0, none⟩ = some (.slice A0_0 l0_0.length c0_0) := (Qe BK127.out 0).trans rfl; have hcz12_1 : w8.cell? ⟨gb127, 1, none⟩ = some (.slice A0_1 l0_1.length c0_1) := (Qe BK127.out 1).trans rfl; have hcz12_2 : w8.cell? ⟨gb127, 2, none⟩ = some (.slice A0_2 l0_2.length c0_2) := (Qe BK127.out 2).trans rfl; have hfz12_0 := Qc BK127.out 0; have hfz12_1 := Qc BK127.out 1; have hfz12_2 := Qc BK127.out 2)))
 go_loopg [11, 12, 27] k (fun kq v11 v12 v27 w' => ∃ (x11_1 : List Int) (x12_1 : Int) (x27_1 : Int), v12 = .int .i64 x12_1 ∧ v27 = .int .i64 x27_1 ∧ Qf (Qz.l0 kq (l0_2.length : Int) (l0_0.length : Int) x11_1 x12_1 l1 (l1.length : Int) x27_1 t128 t129 = some (r1, r2)) ∧ Qf (kq ≤ k) ∧ Qf (Kd.R (Kd.int .i64) 3 w' w.heap.size (fun _ => True) v11 x11_1) ∧ Qf (Kd.R k92 92 w' w.heap.size (fun _ => True) (.slice Ao11 t129.length co11) t129) ∧ Qf (w'.heap[gb127]? = some (.cells #[(.slice A0_0 l0_0.length c0_0), (.slice A0_1 l0_1.length c0_1), (.slice A0_2 l0_2.length c0_2)] 37 (0, 0))) ∧ Qf (w'.heap[gb132]? = some (.cells #[.int .i64 t128, (.slice Ao11 t129.length co11)] 51 (0, 0))) ∧ Qf (Below w.heap.size w w'))
 case atStart => exact ⟨(([] : List Int)), ((-1)), (0), (by first | rfl | (simp; done) | (simp [*]; done)), (by first | rfl | (simp; done) | (simp [*]; done)), H', ⟨Nat.le_refl _⟩, ⟨by first | exact Kd.R_nil _ _ _ _ _ | exact Kd.N_nil _ _ _ _ _ | exact Kd.V_nil _ _ _ _ _ | exact Kd.Q_nil _ _ _ _ _ | exact Kd.S_nil _ _ _ _ _⟩, ⟨by (with_reducible repeat (first | apply Kd.QP | apply Kd.QQ | apply Kd.QT)); exact Kd.Q9 (Kd.R_far (p := ⟨gb132, 1, none⟩) (Kd.R_far (p := ⟨gb132, 0, none⟩) (Kd.R_types HO131.out BK132.out (by decide)) (fun _ hk => hk.2) (.int .i64 t128)) (fun _ hk => hk.2) (.slice Ao11 t129.length co11)) (fun _ hk => trivial)⟩, ⟨by (with_reducible repeat (first | refine Qd ?_ _ | refine Qg ?_ | refine Qb ?_ _)); refine Qv ?_ NB127_132.out _; (with_reducible repeat (first | refine Qd ?_ _ | refine Qg ?_ | refine Qb ?_ _)); refine Qv ?_ NB127_132.out _; (with_reducible repeat (first | refine Qd ?_ _ | refine Qg ?_ | refine Qb ?_ _)); exact BK127.out⟩, ⟨by (with_reducible repeat (first | refine Qd ?_ _ | refine Qg ?_ | refine Qb ?_ _)); refine Qy (cs := #[.int .i64 t128, .slice none 0 0]) ?_ 1 _ rfl; (with_reducible repeat (first | refine Qd ?_ _ | refine Qg ?_ | refine Qb ?_ _)); refine Qy (cs := #[.int .i64 0, .slice none 0 0]) ?_ 0 _ rfl; (with_reducible repeat (first | refine Qd ?_ _ | refine Qg ?_ | refine Qb ?_ _)); exact BK132.out⟩, ⟨by repeat (first | (with_reducible first | exact HB.out | apply Qi | apply Qa | apply Qj | refine Qk ?_ GE127.out | refine Qk ?_ GE132.out) | exact HB.out)⟩⟩
 case round =>
  clear H'
  try clear c1
  try clear c2
  try clear p2
  try clear c9
  try clear hcz10_0
  try clear hcz10_1
  try clear hcz12_0
  try clear hcz12_1
  try clear hcz12_2
  try clear hcz6_0
  try clear hcz6_1
  try clear hcz6_2
  try clear hfz10_0
  try clear hfz10_1
  try clear hfz12_0
  try clear hfz12_1
  try clear hfz12_2
  try clear hfz6_0
  try clear hfz6_1
  try clear hfz6_2
  obtain ⟨x11_1, x12_1, x27_1, rfl, rfl, HA, HK1, HO_11, HO_133001, BK127, BK132, HB⟩ := hrel
  cases gk with
  | zero => exact absurd HA.out (by simp [Qz.l0])
  | succ k1 =>
   have H := HA.out
   clear HA
   simp only [Qz.l0] at H
   by_cases c13 : x27_1 < (l1.length : Int)
   ·rw [if_pos c13] at H
    have c13b0 : decide (x27_1 < (l1.length : Int)) = true := decide_eq_true c13
    clear c13
    by_cases c14 : 0 ≤ x27_1
    ·rw [if_pos c14] at H
     have c14b0 : decide (0 ≤ x27_1) = true := decide_eq_true c14
     clear c14
     by_cases c15 : x27_1 < (l1.length : Int)
     ·rw [if_pos c15] at H
      have c15b0 : decide (x27_1 < (l1.length : Int)) = true := decide_eq_true c15
      clear c15
      have HC16 := Qf.mk H
      clear H
      have p133 : 0 ≤ (x27_1 : Int) := of_decide_eq_true (by first | (with_reducible assumption) | assumption)
      have q133 : x27_1 < (l1.length : Int) := of_decide_eq_true (by first | (with_reducible assumption) | assumption)
      obtain ⟨ad133, e133, hx133_0⟩ := Kd.at_int HR1.out x27_1 p133 q133
      cases e133
      replace hx133_0 := (HB.out.cell (World.block_lt_of_cell? w _ hx133_0)).trans hx133_0
      replace p133 := eq_true p133
      replace q133 := eq_true q133
      go_upto_region 8 with (fail)
      repeat (go_quiet (fail); go_upto_region 8 with (fail))
      go_cut [40] (fun v40 wc => ∃ (kq : Nat) (x40_15 : Bool), v40 = .bool x40_15 ∧ Qf (Qz.j1 kq (l0_2.length : Int) (l0_0.length : Int) x11_1 x12_1 x27_1 (rd l1 x27_1) l1 (l1.length : Int) x27_1 x40_15 t128 t129 = some (r1, r2)) ∧ Qf (kq ≤ k1) ∧ Qf (Kd.R (Kd.int .i64) 3 wc w.heap.size (fun _ => True) u11 x11_1) ∧ Qf (Kd.R k92 92 wc w.heap.size (fun _ => True) (.slice Ao11 t129.length co11) t129) ∧ Qf (wc.heap[gb127]? = some (.cells #[(.slice A0_0 l0_0.length c0_0), (.slice A0_1 l0_1.length c0_1), (.slice A0_2 l0_2.length c0_2)] 37 (0, 0))) ∧ Qf (wc.heap[gb132]? = some (.cells #[.int .i64 t128, (.slice Ao11 t129.length co11)] 51 (0, 0))) ∧ Qf (Below w.heap.size w wc))
      case first =>
       have H := HC16.out
       clear HC16
       by_cases c17 : (rd l1 x27_1) < 0
       ·rw [if_pos c17] at H
        have c17b0 : decide ((rd l1 x27_1) < 0) = true := decide_eq_true c17
        clear c17
        (first | rw [c17b0] | (simp only [Qt, Qu]; rw [c17b0]) | skip)
        have H' := Qf.mk H
        clear H
        go_wp2
        repeat (go_quiet (fail); try go_wp2)
        go_meet
        case rel => exact ⟨_, (true), (by first | rfl | (simp; done) | (simp [*]; done)), H', ⟨by have := HK1.out; first | omega | exact Nat.le_refl _⟩, ⟨by (with_reducible repeat (first | apply Kd.QP | apply Kd.QQ | apply Kd.QT)); exact HO_11.out⟩, ⟨by (with_reducible repeat (first | apply Kd.QP | apply Kd.QQ | apply Kd.QT)); exact HO_133001.out⟩, ⟨by (with_reducible repeat (first | refine Qd ?_ _ | refine Qg ?_ | refine Qb ?_ _)); exact BK127.out⟩, ⟨by (with_reducible repeat (first | refine Qd ?_ _ | refine Qg ?_ | refine Qb ?_ _)); exact BK132.out⟩, ⟨by repeat (first | (with_reducible first | exact HB.out | apply Qi | apply Qa | apply Qj | refine Qk ?_ GE127.out | refine Qk ?_ GE132.out) | exact HB.out)⟩⟩
       ·rw [if_neg c17] at H
        have c17b0 : decide ((rd l1 x27_1) < 0) = false := decide_eq_false c17
        clear c17
        (first | rw [c17b0] | (simp only [Qt, Qu]; rw [c17b0]) | skip)
        have H' := Qf.mk H
        clear H
        have hnb18 := NB132_127.out
        have hnc18 := NB127_132.out
        have hcz19_0 : wr.cell? ⟨gb132, 0, none⟩ = some (.int .i64 t128) := (Qe BK132.out 0).trans rfl
        have hcz19_1 : wr.cell? ⟨gb132, 1, none⟩ = some (.slice Ao11 t129.length co11) := (Qe BK132.out 1).trans rfl
        have hfz19_0 := Qc BK132.out 0
        have hfz19_1 := Qc BK132.out 1
        go_wp2
        repeat (go_quiet (fail); try go_wp2)
        go_meet
        case rel => exact ⟨_, (decide ((rd l1 x27_1) ≥ (t129.length : Int))), (by first | rfl | (simp; done) | (simp [*]; done)), H', ⟨by have := HK1.out; first | omega | exact Nat.le_refl _⟩, ⟨by (with_reducible repeat (first | apply Kd.QP | apply Kd.QQ | apply Kd.QT)); exact HO_11.out⟩, ⟨by (with_reducible repeat (first | apply Kd.QP | apply Kd.QQ | apply Kd.QT)); exact HO_133001.out⟩, ⟨by (with_reducible repeat (first | refine Qd ?_ _ | refine Qg ?_ | refine Qb ?_ _)); exact BK127.out⟩, ⟨by (with_reducible repeat (first | refine Qd ?_ _ | refine Qg ?_ | refine Qb ?_ _)); exact BK132.out⟩, ⟨by repeat (first | (with_reducible first | exact HB.out | apply Qi | apply Qa | apply Qj | refine Qk ?_ GE127.out | refine Qk ?_ GE132.out) | exact HB.out)⟩⟩
      case rest =>
       clear HC16
       try clear c1
       try clear p1
       try clear q1
       try clear hx1
       try clear c2
       try clear p2
       try clear c9
       try clear c13
       try clear c13b0
       try clear p13
       try clear q13
       try clear hx13
       try clear c14
       try clear c14b0
       try clear c15
       try clear c15b0
       try clear c17
       try clear c17b0
       try clear c18
       try clear hcz10_0
       try clear hcz10_1
       try clear hcz12_0
       try clear hcz12_1
       try clear hcz12_2
       try clear hcz19_0
       try clear hcz19_1
       try clear hcz6_0
       try clear hcz6_1
       try clear hcz6_2
       try clear hfz10_0
       try clear hfz10_1
       try clear hfz12_0
       try clear hfz12_1
       try clear hfz12_2
       try clear hfz19_0
       try clear hfz19_1
       try clear hfz6_0
       try clear hfz6_1
       try clear hfz6_2
       try clear hx133_0
       try clear p133
       try clear p2
       try clear q133
       obtain ⟨kq, x40_15, rfl, HA, HJ15, HO_11, HO_133001, BK127, BK132, HB⟩ := hcut
       cases kq with
       | zero => exact absurd HA.out (by simp [Qz.j1])
       | succ kj15 =>
        have H := HA.out
        clear HA
        simp only [Qz.j1] at H
        by_cases c20 : x40_15 = true
        ·subst c20
         have H1 : (some (([] : List Int), false)) = some (r1, r2) := by rw [if_pos rfl] at H; exact H
         clear H
         have H := H1
         clear H1
         simp only [Option.some.injEq, Prod.mk.injEq] at H
         obtain ⟨rfl, rfl⟩ := H
         go_wp2
         repeat (go_quiet (fail); try go_wp2)
         go_ret2
         exact ⟨_, by first | rfl | (simp [Qw, Qx] <;> rfl) | (simp [*, Qw, Qx] <;> rfl), by first | exact Kd.R_nil _ _ _ _ _ | exact Kd.N_nil _ _ _ _ _ | exact Kd.V_nil _ _ _ _ _ | exact Kd.Q_nil _ _ _ _ _ | exact Kd.S_nil _ _ _ _ _, by repeat (first | (with_reducible first | exact HB.out | apply Qi | apply Qa | apply Qj | refine Qk ?_ GE127.out | refine Qk ?_ GE132.out) | exact HB.out)⟩
        ·replace c20 := Bool.eq_false_iff.mpr c20
         subst c20
         have H1 : (if 0 ≤ (rd l1 x27_1) then (if (rd l1 x27_1) < (t129.length : Int) then (if x27_1 = 0 then (if ((Qs t129 (rd l1 x27_1)).f0) < (l0_2.length : Int) then (Qz.j2 kj15 (l0_2.length : Int) (l0_0.length : Int) x11_1 l1 (l1.length : Int) x27_1 true t128 t129 ((Qs t129 (rd l1 x27_1)).f0) ((Qs t129 (rd l1 x27_1)).f1)) else (if ((Qs t129 (rd l1 x27_1)).f0) ≥ (wrap64 ((l0_2.length : Int) + (l0_0.length : Int))) then (Qz.j2 kj15 (l0_2.length : Int) (l0_0.length : Int) x11_1 l1 (l1.length : Int) x27_1 true t128 t129 ((Qs t129 (rd l1 x27_1)).f0) ((Qs t129 (rd l1 x27_1)).f1)) else (if x27_1 > 0 then (Qz.j2 kj15 (l0_2.length : Int) (l0_0.length : Int) x11_1 l1 (l1.length : Int) x27_1 (((Qs t129 (rd l1 x27_1)).f0) != x12_1) t128 t129 ((Qs t129 (rd l1 x27_1)).f0) ((Qs t129 (rd l1 x27_1)).f1)) else (Qz.j2 kj15 (l0_2.length : Int) (l0_0.length : Int) x11_1 l1 (l1.length : Int) x27_1 false t128 t129 ((Qs t129 (rd l1 x27_1)).f0) ((Qs t129 (rd l1 x27_1)).f1))))) else (if x27_1 > 0 then (Qz.j2 kj15 (l0_2.length : Int) (l0_0.length : Int) x11_1 l1 (l1.length : Int) x27_1 (((Qs t129 (rd l1 x27_1)).f0) != x12_1) t128 t129 ((Qs t129 (rd l1 x27_1)).f0) ((Qs t129 (rd l1 x27_1)).f1)) else (Qz.j2 kj15 (l0_2.length : Int) (l0_0.length : Int) x11_1 l1 (l1.length : Int) x27_1 false t128 t129 ((Qs t129 (rd l1 x27_1)).f0) ((Qs t129 (rd l1 x27_1)).f1)))) else (none)) else (none)) = some (r1, r2) := by rw [if_neg (show ¬ (false = true) by decide)] at H; exact H
         clear H
         have H := H1
         clear H1
         by_cases c21 : 0 ≤ (rd l1 x27_1)
         ·rw [if_pos c21] at H
          have c21b0 : decide (0 ≤ (rd l1 x27_1)) = true := decide_eq_true c21
          clear c21
          by_cases c22 : (rd l1 x27_1) < (t129.length : Int)
          ·rw [if_pos c22] at H
           have c22b0 : decide ((rd l1 x27_1) < (t129.length : Int)) = true := decide_eq_true c22
           clear c22
           have HC23 := Qf.mk H
           clear H
           have hnb24 := NB132_127.out
           have hnc24 := NB127_132.out
           have hcz25_0 : wc.cell? ⟨gb132, 0, none⟩ = some (.int .i64 t128) := (Qe BK132.out 0).trans rfl
           have hcz25_1 : wc.cell? ⟨gb132, 1, none⟩ = some (.slice Ao11 t129.length co11) := (Qe BK132.out 1).trans rfl
           have hfz25_0 := Qc BK132.out 0
           have hfz25_1 := Qc BK132.out 1
           have p134 : 0 ≤ ((rd l1 x27_1) : Int) := of_decide_eq_true (by first | (with_reducible assumption) | assumption)
           have q134 : (rd l1 x27_1) < (t129.length : Int) := of_decide_eq_true (by first | (with_reducible assumption) | assumption)
           obtain ⟨ad134, e134, hx134_0, hx134_1⟩ := at_T92 (Kd.R_reads' HO_133001.out).2.2 (rd l1 x27_1) p134 q134
           cases e134
           replace p134 := eq_true p134
           replace q134 := eq_true q134
           go_upto_region 11 with (first | ((with_reducible refine QM (N := 15) rfl ?_); (try (refine Q5 (by rfl) ?_; dsimp only)); refine QI ?hg (N := 15) ?hd (cs := #[.int .i64 0, .int .i64 0]) (t := 92) ?hr ?_; (case hd => rfl); (case hg => rfl); (case hr => first | (go_simp; done) | (go_simp; rfl)); intro gb135 hg w26 hbox hb; have n0_ := Qf.mk (Kd.R_below (by (with_reducible repeat (first | apply Kd.QP | apply Kd.QQ | apply Kd.QT)); exact HO_11.out) hb); have n1_ := Qf.mk (Kd.R_below (Kd.R_elderB (by (with_reducible repeat (first | apply Kd.QP | apply Kd.QQ | apply Kd.QT)); exact HO_133001.out) gb135 (Nat.le_of_eq hg.symm)) hb); have n2_ := Qf.mk (QF (g := gb127) (o := .cells #[.slice A0_0 l0_0.length c0_0, .slice A0_1 l0_1.length c0_1, .slice A0_2 l0_2.length c0_2] 37 (0, 0)) (by (with_reducible repeat (first | refine Qd ?_ _ | refine Qg ?_ | refine Qb ?_ _)); exact BK127.out) hb); have n3_ := Qf.mk (QF (g := gb132) (o := .cells #[.int .i64 t128, .slice (some ad134) t129.length co11] 51 (0, 0)) (by (with_reducible repeat (first | refine Qd ?_ _ | refine Qg ?_ | refine Qb ?_ _)); exact BK132.out) hb); have n4_ := Qf.mk (Qo (by repeat (first | (with_reducible first | exact HB.out | apply Qi | apply Qa | apply Qj | refine Qk ?_ GE127.out | refine Qk ?_ GE132.out) | exact HB.out)) hb); have n5_ := Qf.mk (hbox); have n6_ := Qf.mk ((by rw [hg]; exact (Qp (by repeat (first | (with_reducible first | exact HB.out | apply Qi | apply Qa | apply Qj | refine Qk ?_ GE127.out | refine Qk ?_ GE132.out) | exact HB.out))) : w.heap.size ≤ gb135)); have n7_ := Qf.mk ((by rw [hg]; exact (Qp (by repeat (first | (with_reducible first | exact HB.out | apply Qi | apply Qa | apply Qj | refine Qk ?_ GE127.out | refine Qk ?_ GE132.out) | exact HB.out))) : w.heap.size ≤ gb135)); have n8_ := Qf.mk ((by rw [hg]; exact Nat.ne_of_lt (QR (g := gb127) (o := .cells #[.slice A0_0 l0_0.length c0_0, .slice A0_1 l0_1.length c0_1, .slice A0_2 l0_2.length c0_2] 37 (0, 0)) (by (with_reducible repeat (first | refine Qd ?_ _ | refine Qg ?_ | refine Qb ?_ _)); exact BK127.out)) : gb127 ≠ gb135)); have n9_ := Qf.mk ((by rw [hg]; exact Nat.ne_of_gt (QR (g := gb127) (o := .cells #[.slice A0_0 l0_0.length c0_0, .slice A0_1 l0_1.length c0_1, .slice A0_2 l0_2.length c0_2] 37 (0, 0)) (by (with_reducible repeat (first | refine Qd ?_ _ | refine Qg ?_ | refine Qb ?_ _)); exact BK127.out)) : gb135 ≠ gb127)); have n10_ := Qf.mk ((by rw [hg]; exact Nat.ne_of_lt (QR (g := gb132) (o := .cells #[.int .i64 t128, .slice (some ad134) t129.length co11] 51 (0, 0)) (by (with_reducible repeat (first | refine Qd ?_ _ | refine Qg ?_ | refine Qb ?_ _)); exact BK132.out)) : gb132 ≠ gb135)); have n11_ := Qf.mk ((by rw [hg]; exact Nat.ne_of_gt (QR (g := gb132) (o := .cells #[.int .i64 t128, .slice (some ad134) t129.length co11] 51 (0, 0)) (by (with_reducible repeat (first | refine Qd ?_ _ | refine Qg ?_ | refine Qb ?_ _)); exact BK132.out)) : gb135 ≠ gb132)); clear HO_11; clear HO_133001; clear BK127; clear BK132; clear HB; have HO_11 := n0_; have HO_133001 := n1_; have BK127 := n2_; have BK132 := n3_; have HB := n4_; have BK135 := n5_; have GW135 := n6_; have GE135 := n7_; have NB127_135 := n8_; have NB135_127 := n9_; have NB132_135 := n10_; have NB135_132 := n11_; clear n0_ n1_ n2_ n3_ n4_ n5_ n6_ n7_ n8_ n9_ n10_ n11_; clear hb hbox hg; have hnb27 := NB135_127.out; have hnc27 := NB127_135.out; have hnb28 := NB135_132.out; have hnc28 := NB132_135.out; have hcz29_0 : w26.cell? ⟨gb135, 0, none⟩ = some (.int .i64 0) := (Qe BK135.out 0).trans rfl; have hcz29_1 : w26.cell? ⟨gb135, 1, none⟩ = some (.int .i64 0) := (Qe BK135.out 1).trans rfl; have hfz29_0 := Qc BK135.out 0; have hfz29_1 := Qc BK135.out 1))
           repeat (go_quiet (first | ((with_reducible refine QM (N := 15) rfl ?_); (try (refine Q5 (by rfl) ?_; dsimp only)); refine QI ?hg (N := 15) ?hd (cs := #[.int .i64 0, .int .i64 0]) (t := 92) ?hr ?_; (case hd => rfl); (case hg => rfl); (case hr => first | (go_simp; done) | (go_simp; rfl)); intro gb135 hg w26 hbox hb; have n0_ := Qf.mk (Kd.R_below (by (with_reducible repeat (first | apply Kd.QP | apply Kd.QQ | apply Kd.QT)); exact HO_11.out) hb); have n1_ := Qf.mk (Kd.R_below (Kd.R_elderB (by (with_reducible repeat (first | apply Kd.QP | apply Kd.QQ | apply Kd.QT)); exact HO_133001.out) gb135 (Nat.le_of_eq hg.symm)) hb); have n2_ := Qf.mk (QF (g := gb127) (o := .cells #[.slice A0_0 l0_0.length c0_0, .slice A0_1 l0_1.length c0_1, .slice A0_2 l0_2.length c0_2] 37 (0, 0)) (by (with_reducible repeat (first | refine Qd ?_ _ | refine Qg ?_ | refine Qb ?_ _)); exact BK127.out) hb); have n3_ := Qf.mk (QF (g := gb132) (o := .cells #[.int .i64 t128, .slice (some ad134) t129.length co11] 51 (0, 0)) (by (with_reducible repeat (first | refine Qd ?_ _ | refine Qg ?_ | refine Qb ?_ _)); exact BK132.out) hb); have n4_ := Qf.mk (Qo (by repeat (first | (with_reducible first | exact HB.out | apply Qi | apply Qa | apply Qj | refine Qk ?_ GE127.out | refine Qk ?_ GE132.out) | exact HB.out)) hb); have n5_ := Qf.mk (hbox); have n6_ := Qf.mk ((by rw [hg]; exact (Qp (by repeat (first | (with_reducible first | exact HB.out | apply Qi | apply Qa | apply Qj | refine Qk ?_ GE127.out | refine Qk ?_ GE132.out) | exact HB.out))) : w.heap.size ≤ gb135)); have n7_ := Qf.mk ((by rw [hg]; exact (Qp (by repeat (first | (with_reducible first | exact HB.out | apply Qi | apply Qa | apply Qj | refine Qk ?_ GE127.out | refine Qk ?_ GE132.out) | exact HB.out))) : w.heap.size ≤ gb135)); have n8_ := Qf.mk ((by rw [hg]; exact Nat.ne_of_lt (QR (g := gb127) (o := .cells #[.slice A0_0 l0_0.length c0_0, .slice A0_1 l0_1.length c0_1, .slice A0_2 l0_2.length c0_2] 37 (0, 0)) (by (with_reducible repeat (first | refine Qd ?_ _ | refine Qg ?_ | refine Qb ?_ _)); exact BK127.out)) : gb127 ≠ gb135)); have n9_ := Qf.mk ((by rw [hg]; exact Nat.ne_of_gt (QR (g := gb127) (o := .cells #[.slice A0_0 l0_0.length c0_0, .slice A0_1 l0_1.length c0_1, .slice A0_2 l0_2.length c0_2] 37 (0, 0)) (by (with_reducible repeat (first | refine Qd ?_ _ | refine Qg ?_ | refine Qb ?_ _)); exact BK127.out)) : gb135 ≠ gb127)); have n10_ := Qf.mk ((by rw [hg]; exact Nat.ne_of_lt (QR (g := gb132) (o := .cells #[.int .i64 t128, .slice (some ad134) t129.length co11] 51 (0, 0)) (by (with_reducible repeat (first | refine Qd ?_ _ | refine Qg ?_ | refine Qb ?_ _)); exact BK132.out)) : gb132 ≠ gb135)); have n11_ := Qf.mk ((by rw [hg]; exact Nat.ne_of_gt (QR (g := gb132) (o := .cells #[.int .i64 t128, .slice (some ad134) t129.length co11] 51 (0, 0)) (by (with_reducible repeat (first | refine Qd ?_ _ | refine Qg ?_ | refine Qb ?_ _)); exact BK132.out)) : gb135 ≠ gb132)); clear HO_11; clear HO_133001; clear BK127; clear BK132; clear HB; have HO_11 := n0_; have HO_133001 := n1_; have BK127 := n2_; have BK132 := n3_; have HB := n4_; have BK135 := n5_; have GW135 := n6_; have GE135 := n7_; have NB127_135 := n8_; have NB135_127 := n9_; have NB132_135 := n10_; have NB135_132 := n11_; clear n0_ n1_ n2_ n3_ n4_ n5_ n6_ n7_ n8_ n9_ n10_ n11_; clear hb hbox hg; have hnb27 := NB135_127.out; have hnc27 := NB127_135.out; have hnb28 := NB135_132.out; have hnc28 := NB132_135.out; have hcz29_0 : w26.cell? ⟨gb135, 0, none⟩ = some (.int .i64 0) := (Qe BK135.out 0).trans rfl; have hcz29_1 : w26.cell? ⟨gb135, 1, none⟩ = some (.int .i64 0) := (Qe BK135.out 1).trans rfl; have hfz29_0 := Qc BK135.out 0; have hfz29_1 := Qc BK135.out 1)); go_upto_region 11 with (first | ((with_reducible refine QM (N := 15) rfl ?_); (try (refine Q5 (by rfl) ?_; dsimp only)); refine QI ?hg (N := 15) ?hd (cs := #[.int .i64 0, .int .i64 0]) (t := 92) ?hr ?_; (case hd => rfl); (case hg => rfl); (case hr => first | (go_simp; done) | (go_simp; rfl)); intro gb135 hg w26 hbox hb; have n0_ := Qf.mk (Kd.R_below (by (with_reducible repeat (first | apply Kd.QP | apply Kd.QQ | apply Kd.QT)); exact HO_11.out) hb); have n1_ := Qf.mk (Kd.R_below (Kd.R_elderB (by (with_reducible repeat (first | apply Kd.QP | apply Kd.QQ | apply Kd.QT)); exact HO_133001.out) gb135 (Nat.le_of_eq hg.symm)) hb); have n2_ := Qf.mk (QF (g := gb127) (o := .cells #[.slice A0_0 l0_0.length c0_0, .slice A0_1 l0_1.length c0_1, .slice A0_2 l0_2.length c0_2] 37 (0, 0)) (by (with_reducible repeat (first | refine Qd ?_ _ | refine Qg ?_ | refine Qb ?_ _)); exact BK127.out) hb); have n3_ := Qf.mk (QF (g := gb132) (o := .cells #[.int .i64 t128, .slice (some ad134) t129.length co11] 51 (0, 0)) (by (with_reducible repeat (first | refine Qd ?_ _ | refine Qg ?_ | refine Qb ?_ _)); exact BK132.out) hb); have n4_ := Qf.mk (Qo (by repeat (first | (with_reducible first | exact HB.out | apply Qi | apply Qa | apply Qj | refine Qk ?_ GE127.out | refine Qk ?_ GE132.out) | exact HB.out)) hb); have n5_ := Qf.mk (hbox); have n6_ := Qf.mk ((by rw [hg]; exact (Qp (by repeat (first | (with_reducible first | exact HB.out | apply Qi | apply Qa | apply Qj | refine Qk ?_ GE127.out | refine Qk ?_ GE132.out) | exact HB.out))) : w.heap.size ≤ gb135)); have n7_ := Qf.mk ((by rw [hg]; exact (Qp (by repeat (first | (with_reducible first | exact HB.out | apply Qi | apply Qa | apply Qj | refine Qk ?_ GE127.out | refine Qk ?_ GE132.out) | exact HB.out))) : w.heap.size ≤ gb135)); have n8_ := Qf.mk ((by rw [hg]; exact Nat.ne_of_lt (QR (g := gb127) (o := .cells #[.slice A0_0 l0_0.length c0_0, .slice A0_1 l0_1.length c0_1, .slice A0_2 l0_2.length c0_2] 37 (0, 0)) (by (with_reducible repeat (first | refine Qd ?_ _ | refine Qg ?_ | refine Qb ?_ _)); exact BK127.out)) : gb127 ≠ gb135)); have n9_ := Qf.mk ((by rw [hg]; exact Nat.ne_of_gt (QR (g := gb127) (o := .cells #[.slice A0_0 l0_0.length c0_0, .slice A0_1 l0_1.length c0_1, .slice A0_2 l0_2.length c0_2] 37 (0, 0)) (by (with_reducible repeat (first | refine Qd ?_ _ | refine Qg ?_ | refine Qb ?_ _)); exact BK127.out)) : gb135 ≠ gb127)); have n10_ := Qf.mk ((by rw [hg]; exact Nat.ne_of_lt (QR (g := gb132) (o := .cells #[.int .i64 t128, .slice (some ad134) t129.length co11] 51 (0, 0)) (by (with_reducible repeat (first | refine Qd ?_ _ | refine Qg ?_ | refine Qb ?_ _)); exact BK132.out)) : gb132 ≠ gb135)); have n11_ := Qf.mk ((by rw [hg]; exact Nat.ne_of_gt (QR (g := gb132) (o := .cells #[.int .i64 t128, .slice (some ad134) t129.length co11] 51 (0, 0)) (by (with_reducible repeat (first | refine Qd ?_ _ | refine Qg ?_ | refine Qb ?_ _)); exact BK132.out)) : gb135 ≠ gb132)); clear HO_11; clear HO_133001; clear BK127; clear BK132; clear HB; have HO_11 := n0_; have HO_133001 := n1_; have BK127 := n2_; have BK132 := n3_; have HB := n4_; have BK135 := n5_; have GW135 := n6_; have GE135 := n7_; have NB127_135 := n8_; have NB135_127 := n9_; have NB132_135 := n10_; have NB135_132 := n11_; clear n0_ n1_ n2_ n3_ n4_ n5_ n6_ n7_ n8_ n9_ n10_ n11_; clear hb hbox hg; have hnb27 := NB135_127.out; have hnc27 := NB127_135.out; have hnb28 := NB135_132.out; have hnc28 := NB132_135.out; have hcz29_0 : w26.cell? ⟨gb135, 0, none⟩ = some (.int .i64 0) := (Qe BK135.out 0).trans rfl; have hcz29_1 : w26.cell? ⟨gb135, 1, none⟩ = some (.int .i64 0) := (Qe BK135.out 1).trans rfl; have hfz29_0 := Qc BK135.out 0; have hfz29_1 := Qc BK135.out 1)))
           (try simp only [Act.put, List.setIfInBounds_toArray, List.set_cons_zero, List.set_cons_succ])
           go_cut [71] (fun v71 wc => ∃ (kq : Nat) (x71_22 : Bool), v71 = .bool x71_22 ∧ Qf (Qz.j2 kq (l0_2.length : Int) (l0_0.length : Int) x11_1 l1 (l1.length : Int) x27_1 x71_22 t128 t129 ((Qs t129 (rd l1 x27_1)).f0) ((Qs t129 (rd l1 x27_1)).f1) = some (r1, r2)) ∧ Qf (kq ≤ kj15) ∧ Qf (Kd.R (Kd.int .i64) 3 wc w.heap.size (fun _ => True) u11 x11_1) ∧ Qf (Kd.R k92 92 wc w.heap.size (fun k_ => k_ ≠ gb135) (.slice (some ad134) t129.length co11) t129) ∧ Qf (wc.heap[gb127]? = some (.cells #[(.slice A0_0 l0_0.length c0_0), (.slice A0_1 l0_1.length c0_1), (.slice A0_2 l0_2.length c0_2)] 37 (0, 0))) ∧ Qf (wc.heap[gb132]? = some (.cells #[.int .i64 t128, (.slice (some ad134) t129.length co11)] 51 (0, 0))) ∧ Qf (wc.heap[gb135]? = some (.cells #[.int .i64 ((Qs t129 (rd l1 x27_1)).f0), .int .i64 ((Qs t129 (rd l1 x27_1)).f1)] 92 (0, 0))) ∧ Qf (Below w.heap.size w wc))
           case first =>
            have H := HC23.out
            clear HC23
            by_cases c30 : x27_1 = 0
            ·rw [if_pos c30] at H
             have c30b0 : (x27_1 == 0) = true := beq_iff_eq.mpr c30
             have c30b1 : (x27_1 != 0) = false := bne_eq_false_iff_eq.mpr c30
             clear c30
             (first | rw [c30b0] | (simp only [Qt, Qu]; rw [c30b0]) | skip)
             by_cases c31 : ((Qs t129 (rd l1 x27_1)).f0) < (l0_2.length : Int)
             ·rw [if_pos c31] at H
              have c31b0 : decide (((Qs t129 (rd l1 x27_1)).f0) < (l0_2.length : Int)) = true := decide_eq_true c31
              clear c31
              have H' := Qf.mk H
              clear H
              have hnb32 := NB135_127.out
              have hnc32 := NB127_135.out
              have hnb33 := NB135_132.out
              have hnc33 := NB132_135.out
              have hcz34_0 : w26.cell? ⟨gb135, 0, none⟩ = some (.int .i64 0) := (Qe BK135.out 0).trans rfl
              have hcz34_1 : w26.cell? ⟨gb135, 1, none⟩ = some (.int .i64 0) := (Qe BK135.out 1).trans rfl
              have hfz34_0 := Qc BK135.out 0
              have hfz34_1 := Qc BK135.out 1
              go_wp2
              repeat (go_quiet (fail); try go_wp2)
              go_meet
              case rel => exact ⟨_, (true), (by first | rfl | (simp; done) | (simp [*]; done)), H', ⟨by have := HK1.out; have := HJ15.out; first | omega | exact Nat.le_refl _⟩, ⟨by (with_reducible repeat (first | apply Kd.QP | apply Kd.QQ | apply Kd.QT)); exact Kd.Q9 (Kd.R_far (p := ⟨gb135, 1, none⟩) (Kd.R_far (p := ⟨gb135, 0, none⟩) (Kd.R_types HO_11.out BK135.out (by decide)) (fun _ hk => hk.2) (.int .i64 ((Qs t129 (rd l1 x27_1)).f0))) (fun _ hk => hk.2) (.int .i64 ((Qs t129 (rd l1 x27_1)).f1))) (fun _ hk => trivial)⟩, ⟨by (with_reducible repeat (first | apply Kd.QP | apply Kd.QQ | apply Kd.QT)); exact Kd.Q9 (Kd.R_far (p := ⟨gb135, 1, none⟩) (Kd.R_far (p := ⟨gb135, 0, none⟩) (Kd.Q9 HO_133001.out (fun k_ hk => (⟨hk, hk.2⟩ : _ ∧ k_ ≠ gb135))) (fun _ hk => hk.2) (.int .i64 ((Qs t129 (rd l1 x27_1)).f0))) (fun _ hk => hk.2) (.int .i64 ((Qs t129 (rd l1 x27_1)).f1))) (fun _ hk => hk.1.2)⟩, ⟨by (with_reducible repeat (first | refine Qd ?_ _ | refine Qg ?_ | refine Qb ?_ _)); refine Qv ?_ NB127_135.out _; (with_reducible repeat (first | refine Qd ?_ _ | refine Qg ?_ | refine Qb ?_ _)); refine Qv ?_ NB127_135.out _; (with_reducible repeat (first | refine Qd ?_ _ | refine Qg ?_ | refine Qb ?_ _)); exact BK127.out⟩, ⟨by (with_reducible repeat (first | refine Qd ?_ _ | refine Qg ?_ | refine Qb ?_ _)); refine Qv ?_ NB132_135.out _; (with_reducible repeat (first | refine Qd ?_ _ | refine Qg ?_ | refine Qb ?_ _)); refine Qv ?_ NB132_135.out _; (with_reducible repeat (first | refine Qd ?_ _ | refine Qg ?_ | refine Qb ?_ _)); exact BK132.out⟩, ⟨by (with_reducible repeat (first | refine Qd ?_ _ | refine Qg ?_ | refine Qb ?_ _)); refine Qy (cs := #[.int .i64 ((Qs t129 (rd l1 x27_1)).f0), .int .i64 0]) ?_ 1 _ rfl; (with_reducible repeat (first | refine Qd ?_ _ | refine Qg ?_ | refine Qb ?_ _)); refine Qy (cs := #[.int .i64 0, .int .i64 0]) ?_ 0 _ rfl; (with_reducible repeat (first | refine Qd ?_ _ | refine Qg ?_ | refine Qb ?_ _)); exact BK135.out⟩, ⟨by repeat (first | (with_reducible first | exact HB.out | apply Qi | apply Qa | apply Qj | refine Qk ?_ GE127.out | refine Qk ?_ GE132.out | refine Qk ?_ GE135.out) | exact HB.out)⟩⟩
             ·rw [if_neg c31] at H
              have c31b0 : decide (((Qs t129 (rd l1 x27_1)).f0) < (l0_2.length : Int)) = false := decide_eq_false c31
              clear c31
              by_cases c35 : ((Qs t129 (rd l1 x27_1)).f0) ≥ (wrap64 ((l0_2.length : Int) + (l0_0.length : Int)))
              ·rw [if_pos c35] at H
               have c35b0 : decide ((wrap64 ((l0_2.length : Int) + (l0_0.length : Int))) ≤ ((Qs t129 (rd l1 x27_1)).f0)) = true := decide_eq_true c35
               clear c35
               have H' := Qf.mk H
               clear H
               have hnb36 := NB135_127.out
               have hnc36 := NB127_135.out
               have hnb37 := NB135_132.out
               have hnc37 := NB132_135.out
               have hcz38_0 : w26.cell? ⟨gb135, 0, none⟩ = some (.int .i64 0) := (Qe BK135.out 0).trans rfl
               have hcz38_1 : w26.cell? ⟨gb135, 1, none⟩ = some (.int .i64 0) := (Qe BK135.out 1).trans rfl
               have hfz38_0 := Qc BK135.out 0
               have hfz38_1 := Qc BK135.out 1
               go_wp2
               repeat (go_quiet (fail); try go_wp2)
               go_meet
               case rel => exact ⟨_, (true), (by first | rfl | (simp; done) | (simp [*]; done)), H', ⟨by have := HK1.out; have := HJ15.out; first | omega | exact Nat.le_refl _⟩, ⟨by (with_reducible repeat (first | apply Kd.QP | apply Kd.QQ | apply Kd.QT)); exact Kd.Q9 (Kd.R_far (p := ⟨gb135, 1, none⟩) (Kd.R_far (p := ⟨gb135, 0, none⟩) (Kd.R_types HO_11.out BK135.out (by decide)) (fun _ hk => hk.2) (.int .i64 ((Qs t129 (rd l1 x27_1)).f0))) (fun _ hk => hk.2) (.int .i64 ((Qs t129 (rd l1 x27_1)).f1))) (fun _ hk => trivial)⟩, ⟨by (with_reducible repeat (first | apply Kd.QP | apply Kd.QQ | apply Kd.QT)); exact Kd.Q9 (Kd.R_far (p := ⟨gb135, 1, none⟩) (Kd.R_far (p := ⟨gb135, 0, none⟩) (Kd.Q9 HO_133001.out (fun k_ hk => (⟨hk, hk.2⟩ : _ ∧ k_ ≠ gb135))) (fun _ hk => hk.2) (.int .i64 ((Qs t129 (rd l1 x27_1)).f0))) (fun _ hk => hk.2) (.int .i64 ((Qs t129 (rd l1 x27_1)).f1))) (fun _ hk => hk.1.2)⟩, ⟨by (with_reducible repeat (first | refine Qd ?_ _ | refine Qg ?_ | refine Qb ?_ _)); refine Qv ?_ NB127_135.out _; (with_reducible repeat (first | refine Qd ?_ _ | refine Qg ?_ | refine Qb ?_ _)); refine Qv ?_ NB127_135.out _; (with_reducible repeat (first | refine Qd ?_ _ | refine Qg ?_ | refine Qb ?_ _)); exact BK127.out⟩, ⟨by (with_reducible repeat (first | refine Qd ?_ _ | refine Qg ?_ | refine Qb ?_ _)); refine Qv ?_ NB132_135.out _; (with_reducible repeat (first | refine Qd ?_ _ | refine Qg ?_ | refine Qb ?_ _)); refine Qv ?_ NB132_135.out _; (with_reducible repeat (first | refine Qd ?_ _ | refine Qg ?_ | refine Qb ?_ _)); exact BK132.out⟩, ⟨by (with_reducible repeat (first | refine Qd ?_ _ | refine Qg ?_ | refine Qb ?_ _)); refine Qy (cs := #[.int .i64 ((Qs t129 (rd l1 x27_1)).f0), .int .i64 0]) ?_ 1 _ rfl; (with_reducible repeat (first | refine Qd ?_ _ | refine Qg ?_ | refine Qb ?_ _)); refine Qy (cs := #[.int .i64 0, .int .i64 0]) ?_ 0 _ rfl; (with_reducible repeat (first | refine Qd ?_ _ | refine Qg ?_ | refine Qb ?_ _)); exact BK135.out⟩, ⟨by repeat (first | (with_reducible first | exact HB.out | apply Qi | apply Qa | apply Qj | refine Qk ?_ GE127.out | refine Qk ?_ GE132.out | refine Qk ?_ GE135.out) | exact HB.out)⟩⟩
              ·rw [if_neg c35] at H
               have c35b0 : decide ((wrap64 ((l0_2.length : Int) + (l0_0.length : Int))) ≤ ((Qs t129 (rd l1 x27_1)).f0)) = false := decide_eq_false c35
               clear c35
               by_cases c39 : x27_1 > 0
               ·rw [if_pos c39] at H
                have c39b0 : decide (0 < x27_1) = true := decide_eq_true c39
                clear c39
                have H' := Qf.mk H
                clear H
                have hnb40 := NB135_127.out
                have hnc40 := NB127_135.out
                have hnb41 := NB135_132.out
                have hnc41 := NB132_135.out
                have hcz42_0 : w26.cell? ⟨gb135, 0, none⟩ = some (.int .i64 0) := (Qe BK135.out 0).trans rfl
                have hcz42_1 : w26.cell? ⟨gb135, 1, none⟩ = some (.int .i64 0) := (Qe BK135.out 1).trans rfl
                have hfz42_0 := Qc BK135.out 0
                have hfz42_1 := Qc BK135.out 1
                go_wp2
                repeat (go_quiet (fail); try go_wp2)
                go_meet
                case rel => exact ⟨_, ((((Qs t129 (rd l1 x27_1)).f0) != x12_1)), (by first | rfl | (simp; done) | (simp [*]; done)), H', ⟨by have := HK1.out; have := HJ15.out; first | omega | exact Nat.le_refl _⟩, ⟨by (with_reducible repeat (first | apply Kd.QP | apply Kd.QQ | apply Kd.QT)); exact Kd.Q9 (Kd.R_far (p := ⟨gb135, 1, none⟩) (Kd.R_far (p := ⟨gb135, 0, none⟩) (Kd.R_types HO_11.out BK135.out (by decide)) (fun _ hk => hk.2) (.int .i64 ((Qs t129 (rd l1 x27_1)).f0))) (fun _ hk => hk.2) (.int .i64 ((Qs t129 (rd l1 x27_1)).f1))) (fun _ hk => trivial)⟩, ⟨by (with_reducible repeat (first | apply Kd.QP | apply Kd.QQ | apply Kd.QT)); exact Kd.Q9 (Kd.R_far (p := ⟨gb135, 1, none⟩) (Kd.R_far (p := ⟨gb135, 0, none⟩) (Kd.Q9 HO_133001.out (fun k_ hk => (⟨hk, hk.2⟩ : _ ∧ k_ ≠ gb135))) (fun _ hk => hk.2) (.int .i64 ((Qs t129 (rd l1 x27_1)).f0))) (fun _ hk => hk.2) (.int .i64 ((Qs t129 (rd l1 x27_1)).f1))) (fun _ hk => hk.1.2)⟩, ⟨by (with_reducible repeat (first | refine Qd ?_ _ | refine Qg ?_ | refine Qb ?_ _)); refine Qv ?_ NB127_135.out _; (with_reducible repeat (first | refine Qd ?_ _ | refine Qg ?_ | refine Qb ?_ _)); refine Qv ?_ NB127_135.out _; (with_reducible repeat (first | refine Qd ?_ _ | refine Qg ?_ | refine Qb ?_ _)); exact BK127.out⟩, ⟨by (with_reducible repeat (first | refine Qd ?_ _ | refine Qg ?_ | refine Qb ?_ _)); refine Qv ?_ NB132_135.out _; (with_reducible repeat (first | refine Qd ?_ _ | refine Qg ?_ | refine Qb ?_ _)); refine Qv ?_ NB132_135.out _; (with_reducible repeat (first | refine Qd ?_ _ | refine Qg ?_ | refine Qb ?_ _)); exact BK132.out⟩, ⟨by (with_reducible repeat (first | refine Qd ?_ _ | refine Qg ?_ | refine Qb ?_ _)); refine Qy (cs := #[.int .i64 ((Qs t129 (rd l1 x27_1)).f0), .int .i64 0]) ?_ 1 _ rfl; (with_reducible repeat (first | refine Qd ?_ _ | refine Qg ?_ | refine Qb ?_ _)); refine Qy (cs := #[.int .i64 0, .int .i64 0]) ?_ 0 _ rfl; (with_reducible repeat (first | refine Qd ?_ _ | refine Qg ?_ | refine Qb ?_ _)); exact BK135.out⟩, ⟨by repeat (first | (with_reducible first | exact HB.out | apply Qi | apply Qa | apply Qj | refine Qk ?_ GE127.out | refine Qk ?_ GE132.out | refine Qk ?_ GE135.out) | exact HB.out)⟩⟩
               ·rw [if_neg c39] at H
                have c39b0 : decide (0 < x27_1) = false := decide_eq_false c39
                clear c39
                have H' := Qf.mk H
                clear H
                have hnb43 := NB135_127.out
                have hnc43 := NB127_135.out
                have hnb44 := NB135_132.out
                have hnc44 := NB132_135.out
                have hcz45_0 : w26.cell? ⟨gb135, 0, none⟩ = some (.int .i64 0) := (Qe BK135.out 0).trans rfl
                have hcz45_1 : w26.cell? ⟨gb135, 1, none⟩ = some (.int .i64 0) := (Qe BK135.out 1).trans rfl
                have hfz45_0 := Qc BK135.out 0
                have hfz45_1 := Qc BK135.out 1
                go_wp2
                repeat (go_quiet (fail); try go_wp2)
                go_meet
                case rel => exact ⟨_, (false), (by first | rfl | (simp; done) | (simp [*]; done)), H', ⟨by have := HK1.out; have := HJ15.out; first | omega | exact Nat.le_refl _⟩, ⟨by (with_reducible repeat (first | apply Kd.QP | apply Kd.QQ | apply Kd.QT)); exact Kd.Q9 (Kd.R_far (p := ⟨gb135, 1, none⟩) (Kd.R_far (p := ⟨gb135, 0, none⟩) (Kd.R_types HO_11.out BK135.out (by decide)) (fun _ hk => hk.2) (.int .i64 ((Qs t129 (rd l1 x27_1)).f0))) (fun _ hk => hk.2) (.int .i64 ((Qs t129 (rd l1 x27_1)).f1))) (fun _ hk => trivial)⟩, ⟨by (with_reducible repeat (first | apply Kd.QP | apply Kd.QQ | apply Kd.QT)); exact Kd.Q9 (Kd.R_far (p := ⟨gb135, 1, none⟩) (Kd.R_far (p := ⟨gb135, 0, none⟩) (Kd.Q9 HO_133001.out (fun k_ hk => (⟨hk, hk.2⟩ : _ ∧ k_ ≠ gb135))) (fun _ hk => hk.2) (.int .i64 ((Qs t129 (rd l1 x27_1)).f0))) (fun _ hk => hk.2) (.int .i64 ((Qs t129 (rd l1 x27_1)).f1))) (fun _ hk => hk.1.2)⟩, ⟨by (with_reducible repeat (first | refine Qd ?_ _ | refine Qg ?_ | refine Qb ?_ _)); refine Qv ?_ NB127_135.out _; (with_reducible repeat (first | refine Qd ?_ _ | refine Qg ?_ | refine Qb ?_ _)); refine Qv ?_ NB127_135.out _; (with_reducible repeat (first | refine Qd ?_ _ | refine Qg ?_ | refine Qb ?_ _)); exact BK127.out⟩, ⟨by (with_reducible repeat (first | refine Qd ?_ _ | refine Qg ?_ | refine Qb ?_ _)); refine Qv ?_ NB132_135.out _; (with_reducible repeat (first | refine Qd ?_ _ | refine Qg ?_ | refine Qb ?_ _)); refine Qv ?_ NB132_135.out _; (with_reducible repeat (first | refine Qd ?_ _ | refine Qg ?_ | refine Qb ?_ _)); exact BK132.out⟩, ⟨by (with_reducible repeat (first | refine Qd ?_ _ | refine Qg ?_ | refine Qb ?_ _)); refine Qy (cs := #[.int .i64 ((Qs t129 (rd l1 x27_1)).f0), .int .i64 0]) ?_ 1 _ rfl; (with_reducible repeat (first | refine Qd ?_ _ | refine Qg ?_ | refine Qb ?_ _)); refine Qy (cs := #[.int .i64 0, .int .i64 0]) ?_ 0 _ rfl; (with_reducible repeat (first | refine Qd ?_ _ | refine Qg ?_ | refine Qb ?_ _)); exact BK135.out⟩, ⟨by repeat (first | (with_reducible first | exact HB.out | apply Qi | apply Qa | apply Qj | refine Qk ?_ GE127.out | refine Qk ?_ GE132.out | refine Qk ?_ GE135.out) | exact HB.out)⟩⟩
            ·rw [if_neg c30] at H
             have c30b0 : (x27_1 == 0) = false := beq_eq_false_iff_ne.mpr c30
             have c30b1 : (x27_1 != 0) = true := bne_iff_ne.mpr c30
             (first | rw [c30b0] | (simp only [Qt, Qu]; rw [c30b0]) | skip)
             by_cases c46 : x27_1 > 0
             ·rw [if_pos c46] at H
              have c46b0 : decide (0 < x27_1) = true := decide_eq_true c46
              clear c46
              have H' := Qf.mk H
              clear H
              have hnb47 := NB135_127.out
              have hnc47 := NB127_135.out
              have hnb48 := NB135_132.out
              have hnc48 := NB132_135.out
              have hcz49_0 : w26.cell? ⟨gb135, 0, none⟩ = some (.int .i64 0) := (Qe BK135.out 0).trans rfl
              have hcz49_1 : w26.cell? ⟨gb135, 1, none⟩ = some (.int .i64 0) := (Qe BK135.out 1).trans rfl
              have hfz49_0 := Qc BK135.out 0
              have hfz49_1 := Qc BK135.out 1
              go_wp2
              repeat (go_quiet (fail); try go_wp2)
              go_meet
              case rel => exact ⟨_, ((((Qs t129 (rd l1 x27_1)).f0) != x12_1)), (by first | rfl | (simp; done) | (simp [*]; done)), H', ⟨by have := HK1.out; have := HJ15.out; first | omega | exact Nat.le_refl _⟩, ⟨by (with_reducible repeat (first | apply Kd.QP | apply Kd.QQ | apply Kd.QT)); exact Kd.Q9 (Kd.R_far (p := ⟨gb135, 1, none⟩) (Kd.R_far (p := ⟨gb135, 0, none⟩) (Kd.R_types HO_11.out BK135.out (by decide)) (fun _ hk => hk.2) (.int .i64 ((Qs t129 (rd l1 x27_1)).f0))) (fun _ hk => hk.2) (.int .i64 ((Qs t129 (rd l1 x27_1)).f1))) (fun _ hk => trivial)⟩, ⟨by (with_reducible repeat (first | apply Kd.QP | apply Kd.QQ | apply Kd.QT)); exact Kd.Q9 (Kd.R_far (p := ⟨gb135, 1, none⟩) (Kd.R_far (p := ⟨gb135, 0, none⟩) (Kd.Q9 HO_133001.out (fun k_ hk => (⟨hk, hk.2⟩ : _ ∧ k_ ≠ gb135))) (fun _ hk => hk.2) (.int .i64 ((Qs t129 (rd l1 x27_1)).f0))) (fun _ hk => hk.2) (.int .i64 ((Qs t129 (rd l1 x27_1)).f1))) (fun _ hk => hk.1.2)⟩, ⟨by (with_reducible repeat (first | refine Qd ?_ _ | refine Qg ?_ | refine Qb ?_ _)); refine Qv ?_ NB127_135.out _; (with_reducible repeat (first | refine Qd ?_ _ | refine Qg ?_ | refine Qb ?_ _)); refine Qv ?_ NB127_135.out _; (with_reducible repeat (first | refine Qd ?_ _ | refine Qg ?_ | refine Qb ?_ _)); exact BK127.out⟩, ⟨by (with_reducible repeat (first | refine Qd ?_ _ | refine Qg ?_ | refine Qb ?_ _)); refine Qv ?_ NB132_135.out _; (with_reducible repeat (first | refine Qd ?_ _ | refine Qg ?_ | refine Qb ?_ _)); refine Qv ?_ NB132_135.out _; (with_reducible repeat (first | refine Qd ?_ _ | refine Qg ?_ | refine Qb ?_ _)); exact BK132.out⟩, ⟨by (with_reducible repeat (first | refine Qd ?_ _ | refine Qg ?_ | refine Qb ?_ _)); refine Qy (cs := #[.int .i64 ((Qs t129 (rd l1 x27_1)).f0), .int .i64 0]) ?_ 1 _ rfl; (with_reducible repeat (first | refine Qd ?_ _ | refine Qg ?_ | refine Qb ?_ _)); refine Qy (cs := #[.int .i64 0, .int .i64 0]) ?_ 0 _ rfl; (with_reducible repeat (first | refine Qd ?_ _ | refine Qg ?_ | refine Qb ?_ _)); exact BK135.out⟩, ⟨by repeat (first | (with_reducible first | exact HB.out | apply Qi | apply Qa | apply Qj | refine Qk ?_ GE127.out | refine Qk ?_ GE132.out | refine Qk ?_ GE135.out) | exact HB.out)⟩⟩
             ·rw [if_neg c46] at H
              have c46b0 : decide (0 < x27_1) = false := decide_eq_false c46
              clear c46
              have H' := Qf.mk H
              clear H
              go_wp2
              repeat (go_quiet (fail); try go_wp2)
              go_meet
              case rel => exact ⟨_, (false), (by first | rfl | (simp; done) | (simp [*]; done)), H', ⟨by have := HK1.out; have := HJ15.out; first | omega | exact Nat.le_refl _⟩, ⟨by (with_reducible repeat (first | apply Kd.QP | apply Kd.QQ | apply Kd.QT)); exact Kd.Q9 (Kd.R_far (p := ⟨gb135, 1, none⟩) (Kd.R_far (p := ⟨gb135, 0, none⟩) (Kd.R_types HO_11.out BK135.out (by decide)) (fun _ hk => hk.2) (.int .i64 ((Qs t129 (rd l1 x27_1)).f0))) (fun _ hk => hk.2) (.int .i64 ((Qs t129 (rd l1 x27_1)).f1))) (fun _ hk => trivial)⟩, ⟨by (with_reducible repeat (first | apply Kd.QP | apply Kd.QQ | apply Kd.QT)); exact Kd.Q9 (Kd.R_far (p := ⟨gb135, 1, none⟩) (Kd.R_far (p := ⟨gb135, 0, none⟩) (Kd.Q9 HO_133001.out (fun k_ hk => (⟨hk, hk.2⟩ : _ ∧ k_ ≠ gb135))) (fun _ hk => hk.2) (.int .i64 ((Qs t129 (rd l1 x27_1)).f0))) (fun _ hk => hk.2) (.int .i64 ((Qs t129 (rd l1 x27_1)).f1))) (fun _ hk => hk.1.2)⟩, ⟨by (with_reducible repeat (first | refine Qd ?_ _ | refine Qg ?_ | refine Qb ?_ _)); refine Qv ?_ NB127_135.out _; (with_reducible repeat (first | refine Qd ?_ _ | refine Qg ?_ | refine Qb ?_ _)); refine Qv ?_ NB127_135.out _; (with_reducible repeat (first | refine Qd ?_ _ | refine Qg ?_ | refine Qb ?_ _)); exact BK127.out⟩, ⟨by (with_reducible repeat (first | refine Qd ?_ _ | refine Qg ?_ | refine Qb ?_ _)); refine Qv ?_ NB132_135.out _; (with_reducible repeat (first | refine Qd ?_ _ | refine Qg ?_ | refine Qb ?_ _)); refine Qv ?_ NB132_135.out _; (with_reducible repeat (first | refine Qd ?_ _ | refine Qg ?_ | refine Qb ?_ _)); exact BK132.out⟩, ⟨by (with_reducible repeat (first | refine Qd ?_ _ | refine Qg ?_ | refine Qb ?_ _)); refine Qy (cs := #[.int .i64 ((Qs t129 (rd l1 x27_1)).f0), .int .i64 0]) ?_ 1 _ rfl; (with_reducible repeat (first | refine Qd ?_ _ | refine Qg ?_ | refine Qb ?_ _)); refine Qy (cs := #[.int .i64 0, .int .i64 0]) ?_ 0 _ rfl; (with_reducible repeat (first | refine Qd ?_ _ | refine Qg ?_ | refine Qb ?_ _)); exact BK135.out⟩, ⟨by repeat (first | (with_reducible first | exact HB.out | apply Qi | apply Qa | apply Qj | refine Qk ?_ GE127.out | refine Qk ?_ GE132.out | refine Qk ?_ GE135.out) | exact HB.out)⟩⟩
           case rest =>
            clear HC23
            try clear c1
            try clear p1
            try clear q1
            try clear hx1
            try clear c2
            try clear p2
            try clear c3
            try clear c4
            try clear p6
            try clear c9
            try clear c13
            try clear c13b0
            try clear p13
            try clear q13
            try clear hx13
            try clear c14
            try clear c14b0
            try clear c15
            try clear c15b0
            try clear c17
            try clear c17b0
            try clear c18
            try clear c20
            try clear c21
            try clear c21b0
            try clear c22
            try clear c22b0
            try clear c24
            try clear c25
            try clear c27
            try clear c28
            try clear c30
            try clear c30b0
            try clear c30b1
            try clear c31
            try clear c31b0
            try clear c32
            try clear c33
            try clear c35
            try clear c35b0
            try clear c36
            try clear c37
            try clear c39
            try clear c39b0
            try clear c40
            try clear c41
            try clear c43
            try clear c44
            try clear c46
            try clear c46b0
            try clear c47
            try clear c48
            try clear hcz10_0
            try clear hcz10_1
            try clear hcz12_0
            try clear hcz12_1
            try clear hcz12_2
            try clear hcz19_0
            try clear hcz19_1
            try clear hcz25_0
            try clear hcz25_1
            try clear hcz29_0
            try clear hcz29_1
            try clear hcz34_0
            try clear hcz34_1
            try clear hcz38_0
            try clear hcz38_1
            try clear hcz42_0
            try clear hcz42_1
            try clear hcz45_0
            try clear hcz45_1
            try clear hcz49_0
            try clear hcz49_1
            try clear hcz6_0
            try clear hcz6_1
            try clear hcz6_2
            try clear hfz10_0
            try clear hfz10_1
            try clear hfz12_0
            try clear hfz12_1
            try clear hfz12_2
            try clear hfz19_0
            try clear hfz19_1
            try clear hfz25_0
            try clear hfz25_1
            try clear hfz29_0
            try clear hfz29_1
            try clear hfz34_0
            try clear hfz34_1
            try clear hfz38_0
            try clear hfz38_1
            try clear hfz42_0
            try clear hfz42_1
            try clear hfz45_0
            try clear hfz45_1
            try clear hfz49_0
            try clear hfz49_1
            try clear hfz6_0
            try clear hfz6_1
            try clear hfz6_2
            try clear hx133_0
            try clear hx134_0
            try clear hx134_1
            try clear p1
            try clear p13
            try clear p133
            try clear p134
            try clear p2
            try clear q1
            try clear q13
            try clear q133
            try clear q134
            obtain ⟨kq, x71_22, rfl, HA, HJ22, HO_11, HO_133001, BK127, BK132, BK135, HB⟩ := hcut
            cases kq with
            | zero => exact absurd HA.out (by simp [Qz.j2])
            | succ kj22 =>
             have H := HA.out
             clear HA
             simp only [Qz.j2] at H
             by_cases c50 : x71_22 = true
             ·subst c50
              have H1 : (some (([] : List Int), false)) = some (r1, r2) := by rw [if_pos rfl] at H; exact H
              clear H
              have H := H1
              clear H1
              simp only [Option.some.injEq, Prod.mk.injEq] at H
              obtain ⟨rfl, rfl⟩ := H
              go_wp2
              repeat (go_quiet (fail); try go_wp2)
              go_ret2
              exact ⟨_, by first | rfl | (simp [Qw, Qx] <;> rfl) | (simp [*, Qw, Qx] <;> rfl), by first | exact Kd.R_nil _ _ _ _ _ | exact Kd.N_nil _ _ _ _ _ | exact Kd.V_nil _ _ _ _ _ | exact Kd.Q_nil _ _ _ _ _ | exact Kd.S_nil _ _ _ _ _, by repeat (first | (with_reducible first | exact HB.out | apply Qi | apply Qa | apply Qj | refine Qk ?_ GE127.out | refine Qk ?_ GE132.out | refine Qk ?_ GE135.out) | exact HB.out)⟩
             ·replace c50 := Bool.eq_false_iff.mpr c50
              subst c50
              have H1 : (if ((Qs t129 (rd l1 x27_1)).f1) < (l0_2.length : Int) then (if x11_1.length < 17592186044416 then (Qz.l0 kj22 (l0_2.length : Int) (l0_0.length : Int) (x11_1 ++ [((Qs t129 (rd l1 x27_1)).f1)]) ((Qs t129 (rd l1 x27_1)).f1) l1 (l1.length : Int) (wrap64 (x27_1 + 1)) t128 t129) else (none)) else (Qz.l0 kj22 (l0_2.length : Int) (l0_0.length : Int) x11_1 ((Qs t129 (rd l1 x27_1)).f1) l1 (l1.length : Int) (wrap64 (x27_1 + 1)) t128 t129)) = some (r1, r2) := by rw [if_neg (show ¬ (false = true) by decide)] at H; exact H
              clear H
              have H := H1
              clear H1
              by_cases c51 : ((Qs t129 (rd l1 x27_1)).f1) < (l0_2.length : Int)
              ·rw [if_pos c51] at H
               have c51b0 : decide (((Qs t129 (rd l1 x27_1)).f1) < (l0_2.length : Int)) = true := decide_eq_true c51
               clear c51
               by_cases c52 : x11_1.length < 17592186044416
               ·rw [if_pos c52] at H
                have LMc52 := Qf.mk c52
                clear c52
                obtain ⟨y136, hy136⟩ : ∃ y_ : List Int, y_ = (x11_1 ++ [((Qs t129 (rd l1 x27_1)).f1)]) := ⟨_, rfl⟩
                replace H : (Qz.l0 kj22 (l0_2.length : Int) (l0_0.length : Int) y136 ((Qs t129 (rd l1 x27_1)).f1) l1 (l1.length : Int) (wrap64 (x27_1 + 1)) t128 t129) = some (r1, r2) := by first | (rw [hy136]; with_reducible exact H) | (have H2_ := (Option.bind_some _ _).symm.trans H; rw [hy136]; with_reducible exact H2_) | (have H2_ := (Option.bind_some _ _).symm.trans H; with_reducible exact H2_) | with_reducible exact H | (rw [hy136]; exact H) | exact H
                have Ny136 := Qf.mk hy136
                clear hy136
                have H' := Qf.mk H
                clear H
                have hnb53 := NB135_127.out
                have hnc53 := NB127_135.out
                have hnb54 := NB135_132.out
                have hnc54 := NB132_135.out
                have hcz55_0 : wc.cell? ⟨gb135, 0, none⟩ = some (.int .i64 ((Qs t129 (rd l1 x27_1)).f0)) := (Qe BK135.out 0).trans rfl
                have hcz55_1 : wc.cell? ⟨gb135, 1, none⟩ = some (.int .i64 ((Qs t129 (rd l1 x27_1)).f1)) := (Qe BK135.out 1).trans rfl
                have hfz55_0 := Qc BK135.out 0
                have hfz55_1 := Qc BK135.out 1
                go_wp2_with (first | ((with_reducible refine gate_builtin (b := .append) (xs := #[.tmp 77, .tmp 79]) rfl ?_); (try (refine Q5 (by rfl) ?_; dsimp only)); at_builtin; refine Kd.R_append (Kd.int .i64) (w0 := w) w.heap.size rfl (.tmp 77) (.tmp 79) 33 3 (.int .i64 0) 8 rfl Try.underlying33 info3 rfl (by decide) (by omega) u11 x11_1 ((Qs t129 (rd l1 x27_1)).f1) [.int .i64 ((Qs t129 (rd l1 x27_1)).f1)] (fun _ => True) (fun _ => False) rfl rfl ?aP (fun _ hk => hk.elim) ?aF ?aO ?aB ?aS ?aL ?_; (case aP => exact rfl); (case aB => exact (by repeat (first | (with_reducible first | exact HB.out | apply Qi | apply Qa | apply Qj | refine Qk ?_ GE127.out | refine Qk ?_ GE132.out | refine Qk ?_ GE135.out) | exact HB.out))); (case aF => exact (fun _ _ => trivial)); (case aO => exact (by (with_reducible repeat (first | apply Kd.QP | apply Kd.QQ | apply Kd.QT)); exact HO_11.out)); (case aS => exact (Qp (by repeat (first | (with_reducible first | exact HB.out | apply Qi | apply Qa | apply Qj | refine Qk ?_ GE127.out | refine Qk ?_ GE132.out | refine Qk ?_ GE135.out) | exact HB.out)))); (case aL => have := LMc52.out; omega); intro v137 w56 ho hb hg hat; rw [← Ny136.out] at ho; have n0_ := Qf.mk (Kd.R_over' (by (with_reducible repeat (first | apply Kd.QP | apply Kd.QQ | apply Kd.QT)); exact HO_133001.out) (Kd.R_typed (by (with_reducible repeat (first | apply Kd.QP | apply Kd.QQ | apply Kd.QT)); exact HO_11.out)) (by decide) hg); have n1_ := Qf.mk (blk_grown (g := gb127) (o := .cells #[.slice A0_0 l0_0.length c0_0, .slice A0_1 l0_1.length c0_1, .slice A0_2 l0_2.length c0_2] 37 (0, 0)) (by (with_reducible repeat (first | refine Qd ?_ _ | refine Qg ?_ | refine Qb ?_ _)); exact BK127.out) hg (Kd.R_ne HO_11.out BK127.out (by decide))); have n2_ := Qf.mk (blk_grown (g := gb132) (o := .cells #[.int .i64 t128, .slice (some ad134) t129.length co11] 51 (0, 0)) (by (with_reducible repeat (first | refine Qd ?_ _ | refine Qg ?_ | refine Qb ?_ _)); exact BK132.out) hg (Kd.R_ne HO_11.out BK132.out (by decide))); have n3_ := Qf.mk (blk_grown (g := gb135) (o := .cells #[.int .i64 ((Qs t129 (rd l1 x27_1)).f0), .int .i64 ((Qs t129 (rd l1 x27_1)).f1)] 92 (0, 0)) (by (with_reducible repeat (first | refine Qd ?_ _ | refine Qg ?_ | refine Qb ?_ _)); exact BK135.out) hg (Kd.R_ne HO_11.out BK135.out (by decide))); have n4_ := Qf.mk (hb); have n5_ := Qf.mk (ho); clear HO_133001; clear BK127; clear BK132; clear BK135; clear HB; clear HO_11; have HO_133001 := n0_; have BK127 := n1_; have BK132 := n2_; have BK135 := n3_; have HB := n4_; have HO138 := n5_; clear n0_ n1_ n2_ n3_ n4_ n5_; clear ho hb hg hat))
                repeat (go_quiet (first | ((with_reducible refine gate_builtin (b := .append) (xs := #[.tmp 77, .tmp 79]) rfl ?_); (try (refine Q5 (by rfl) ?_; dsimp only)); at_builtin; refine Kd.R_append (Kd.int .i64) (w0 := w) w.heap.size rfl (.tmp 77) (.tmp 79) 33 3 (.int .i64 0) 8 rfl Try.underlying33 info3 rfl (by decide) (by omega) u11 x11_1 ((Qs t129 (rd l1 x27_1)).f1) [.int .i64 ((Qs t129 (rd l1 x27_1)).f1)] (fun _ => True) (fun _ => False) rfl rfl ?aP (fun _ hk => hk.elim) ?aF ?aO ?aB ?aS ?aL ?_; (case aP => exact rfl); (case aB => exact (by repeat (first | (with_reducible first | exact HB.out | apply Qi | apply Qa | apply Qj | refine Qk ?_ GE127.out | refine Qk ?_ GE132.out | refine Qk ?_ GE135.out) | exact HB.out))); (case aF => exact (fun _ _ => trivial)); (case aO => exact (by (with_reducible repeat (first | apply Kd.QP | apply Kd.QQ | apply Kd.QT)); exact HO_11.out)); (case aS => exact (Qp (by repeat (first | (with_reducible first | exact HB.out | apply Qi | apply Qa | apply Qj | refine Qk ?_ GE127.out | refine Qk ?_ GE132.out | refine Qk ?_ GE135.out) | exact HB.out)))); (case aL => have := LMc52.out; omega); intro v137 w56 ho hb hg hat; rw [← Ny136.out] at ho; have n0_ := Qf.mk (Kd.R_over' (by (with_reducible repeat (first | apply Kd.QP | apply Kd.QQ | apply Kd.QT)); exact HO_133001.out) (Kd.R_typed (by (with_reducible repeat (first | apply Kd.QP | apply Kd.QQ | apply Kd.QT)); exact HO_11.out)) (by decide) hg); have n1_ := Qf.mk (blk_grown (g := gb127) (o := .cells #[.slice A0_0 l0_0.length c0_0, .slice A0_1 l0_1.length c0_1, .slice A0_2 l0_2.length c0_2] 37 (0, 0)) (by (with_reducible repeat (first | refine Qd ?_ _ | refine Qg ?_ | refine Qb ?_ _)); exact BK127.out) hg (Kd.R_ne HO_11.out BK127.out (by decide))); have n2_ := Qf.mk (blk_grown (g := gb132) (o := .cells #[.int .i64 t128, .slice (some ad134) t129.length co11] 51 (0, 0)) (by (with_reducible repeat (first | refine Qd ?_ _ | refine Qg ?_ | refine Qb ?_ _)); exact BK132.out) hg (Kd.R_ne HO_11.out BK132.out (by decide))); have n3_ := Qf.mk (blk_grown (g := gb135) (o := .cells #[.int .i64 ((Qs t129 (rd l1 x27_1)).f0), .int .i64 ((Qs t129 (rd l1 x27_1)).f1)] 92 (0, 0)) (by (with_reducible repeat (first | refine Qd ?_ _ | refine Qg ?_ | refine Qb ?_ _)); exact BK135.out) hg (Kd.R_ne HO_11.out BK135.out (by decide))); have n4_ := Qf.mk (hb); have n5_ := Qf.mk (ho); clear HO_133001; clear BK127; clear BK132; clear BK135; clear HB; clear HO_11; have HO_133001 := n0_; have BK127 := n1_; have BK132 := n2_; have BK135 := n3_; have HB := n4_; have HO138 := n5_; clear n0_ n1_ n2_ n3_ n4_ n5_; clear ho hb hg hat)); try go_wp2_with (first | ((with_reducible refine gate_builtin (b := .append) (xs := #[.tmp 77, .tmp 79]) rfl ?_); (try (refine Q5 (by rfl) ?_; dsimp only)); at_builtin; refine Kd.R_append (Kd.int .i64) (w0 := w) w.heap.size rfl (.tmp 77) (.tmp 79) 33 3 (.int .i64 0) 8 rfl Try.underlying33 info3 rfl (by decide) (by omega) u11 x11_1 ((Qs t129 (rd l1 x27_1)).f1) [.int .i64 ((Qs t129 (rd l1 x27_1)).f1)] (fun _ => True) (fun _ => False) rfl rfl ?aP (fun _ hk => hk.elim) ?aF ?aO ?aB ?aS ?aL ?_; (case aP => exact rfl); (case aB => exact (by repeat (first | (with_reducible first | exact HB.out | apply Qi | apply Qa | apply Qj | refine Qk ?_ GE127.out | refine Qk ?_ GE132.out | refine Qk ?_ GE135.out) | exact HB.out))); (case aF => exact (fun _ _ => trivial)); (case aO => exact (by (with_reducible repeat (first | apply Kd.QP | apply Kd.QQ | apply Kd.QT)); exact HO_11.out)); (case aS => exact (Qp (by repeat (first | (with_reducible first | exact HB.out | apply Qi | apply Qa | apply Qj | refine Qk ?_ GE127.out | refine Qk ?_ GE132.out | refine Qk ?_ GE135.out) | exact HB.out)))); (case aL => have := LMc52.out; omega); intro v137 w56 ho hb hg hat; rw [← Ny136.out] at ho; have n0_ := Qf.mk (Kd.R_over' (by (with_reducible repeat (first | apply Kd.QP | apply Kd.QQ | apply Kd.QT)); exact HO_133001.out) (Kd.R_typed (by (with_reducible repeat (first | apply Kd.QP | apply Kd.QQ | apply Kd.QT)); exact HO_11.out)) (by decide) hg); have n1_ := Qf.mk (blk_grown (g := gb127) (o := .cells #[.slice A0_0 l0_0.length c0_0, .slice A0_1 l0_1.length c0_1, .slice A0_2 l0_2.length c0_2] 37 (0, 0)) (by (with_reducible repeat (first | refine Qd ?_ _ | refine Qg ?_ | refine Qb ?_ _)); exact BK127.out) hg (Kd.R_ne HO_11.out BK127.out (by decide))); have n2_ := Qf.mk (blk_grown (g := gb132) (o := .cells #[.int .i64 t128, .slice (some ad134) t129.length co11] 51 (0, 0)) (by (with_reducible repeat (first | refine Qd ?_ _ | refine Qg ?_ | refine Qb ?_ _)); exact BK132.out) hg (Kd.R_ne HO_11.out BK132.out (by decide))); have n3_ := Qf.mk (blk_grown (g := gb135) (o := .cells #[.int .i64 ((Qs t129 (rd l1 x27_1)).f0), .int .i64 ((Qs t129 (rd l1 x27_1)).f1)] 92 (0, 0)) (by (with_reducible repeat (first | refine Qd ?_ _ | refine Qg ?_ | refine Qb ?_ _)); exact BK135.out) hg (Kd.R_ne HO_11.out BK135.out (by decide))); have n4_ := Qf.mk (hb); have n5_ := Qf.mk (ho); clear HO_133001; clear BK127; clear BK132; clear BK135; clear HB; clear HO_11; have HO_133001 := n0_; have BK127 := n1_; have BK132 := n2_; have BK135 := n3_; have HB := n4_; have HO138 := n5_; clear n0_ n1_ n2_ n3_ n4_ n5_; clear ho hb hg hat)))
                go_roundg kj22
                case measure => have := HK1.out; have := HJ15.out; have := HJ22.out; omega
                case rel => exact ⟨(y136), (((Qs t129 (rd l1 x27_1)).f1)), (wrap64 (x27_1 + 1)), (by first | rfl | (simp; done) | (simp [*]; done)), (by first | rfl | (simp; done) | (simp [*]; done)), H', ⟨by have := HK1.out; have := HJ15.out; have := HJ22.out; omega⟩, ⟨by (with_reducible repeat (first | apply Kd.QP | apply Kd.QQ | apply Kd.QT)); exact HO138.out⟩, ⟨by (with_reducible repeat (first | apply Kd.QP | apply Kd.QQ | apply Kd.QT)); exact Kd.Q9 HO_133001.out (fun _ hk => trivial)⟩, ⟨by (with_reducible repeat (first | refine Qd ?_ _ | refine Qg ?_ | refine Qb ?_ _)); exact BK127.out⟩, ⟨by (with_reducible repeat (first | refine Qd ?_ _ | refine Qg ?_ | refine Qb ?_ _)); exact BK132.out⟩, ⟨by repeat (first | (with_reducible first | exact HB.out | apply Qi | apply Qa | apply Qj | refine Qk ?_ GE127.out | refine Qk ?_ GE132.out | refine Qk ?_ GE135.out) | exact HB.out)⟩⟩
               ·rw [if_neg c52] at H
                exact absurd H (by simp)
              ·rw [if_neg c51] at H
               have c51b0 : decide (((Qs t129 (rd l1 x27_1)).f1) < (l0_2.length : Int)) = false := decide_eq_false c51
               clear c51
               have H' := Qf.mk H
               clear H
               have hnb57 := NB135_127.out
               have hnc57 := NB127_135.out
               have hnb58 := NB135_132.out
               have hnc58 := NB132_135.out
               have hcz59_0 : wc.cell? ⟨gb135, 0, none⟩ = some (.int .i64 ((Qs t129 (rd l1 x27_1)).f0)) := (Qe BK135.out 0).trans rfl
               have hcz59_1 : wc.cell? ⟨gb135, 1, none⟩ = some (.int .i64 ((Qs t129 (rd l1 x27_1)).f1)) := (Qe BK135.out 1).trans rfl
               have hfz59_0 := Qc BK135.out 0
               have hfz59_1 := Qc BK135.out 1
               go_wp2
               repeat (go_quiet (fail); try go_wp2)
               go_roundg kj22
               case measure => have := HK1.out; have := HJ15.out; have := HJ22.out; omega
               case rel => exact ⟨(x11_1), (((Qs t129 (rd l1 x27_1)).f1)), (wrap64 (x27_1 + 1)), (by first | rfl | (simp; done) | (simp [*]; done)), (by first | rfl | (simp; done) | (simp [*]; done)), H', ⟨by have := HK1.out; have := HJ15.out; have := HJ22.out; omega⟩, ⟨by (with_reducible repeat (first | apply Kd.QP | apply Kd.QQ | apply Kd.QT)); exact HO_11.out⟩, ⟨by (with_reducible repeat (first | apply Kd.QP | apply Kd.QQ | apply Kd.QT)); exact Kd.Q9 HO_133001.out (fun _ hk => trivial)⟩, ⟨by (with_reducible repeat (first | refine Qd ?_ _ | refine Qg ?_ | refine Qb ?_ _)); exact BK127.out⟩, ⟨by (with_reducible repeat (first | refine Qd ?_ _ | refine Qg ?_ | refine Qb ?_ _)); exact BK132.out⟩, ⟨by repeat (first | (with_reducible first | exact HB.out | apply Qi | apply Qa | apply Qj | refine Qk ?_ GE127.out | refine Qk ?_ GE132.out | refine Qk ?_ GE135.out) | exact HB.out)⟩⟩
          ·rw [if_neg c22] at H
           exact absurd H (by simp)
         ·rw [if_neg c21] at H
          exact absurd H (by simp)
     ·rw [if_neg c15] at H
      exact absurd H (by simp)
    ·rw [if_neg c14] at H
     exact absurd H (by simp)
   ·rw [if_neg c13] at H
    have c13b0 : decide (x27_1 < (l1.length : Int)) = false := decide_eq_false c13
    clear c13
    by_cases c60 : x12_1 < (wrap64 ((l0_2.length : Int) + (l0_0.length : Int)))
    ·rw [if_pos c60] at H
     have c60b0 : decide (x12_1 < (wrap64 ((l0_2.length : Int) + (l0_0.length : Int)))) = true := decide_eq_true c60
     clear c60
     simp only [Option.some.injEq, Prod.mk.injEq] at H
     obtain ⟨rfl, rfl⟩ := H
     go_wp2
     repeat (go_quiet (fail); try go_wp2)
     go_ret2
     exact ⟨_, by first | rfl | (simp [Qw, Qx] <;> rfl) | (simp [*, Qw, Qx] <;> rfl), by first | exact Kd.R_nil _ _ _ _ _ | exact Kd.N_nil _ _ _ _ _ | exact Kd.V_nil _ _ _ _ _ | exact Kd.Q_nil _ _ _ _ _ | exact Kd.S_nil _ _ _ _ _, by repeat (first | (with_reducible first | exact HB.out | apply Qi | apply Qa | apply Qj | refine Qk ?_ GE127.out | refine Qk ?_ GE132.out) | exact HB.out)⟩
    ·rw [if_neg c60] at H
     have c60b0 : decide (x12_1 < (wrap64 ((l0_2.length : Int) + (l0_0.length : Int)))) = false := decide_eq_false c60
     clear c60
     simp only [Option.some.injEq, Prod.mk.injEq] at H
     obtain ⟨rfl, rfl⟩ := H
     go_wp2
     repeat (go_quiet (fail); try go_wp2)
     go_ret2
     exact ⟨_, by first | rfl | (simp [Qw, Qx] <;> rfl) | (simp [*, Qw, Qx] <;> rfl), by (with_reducible repeat (first | apply Kd.QP | apply Kd.QQ | apply Kd.QT)); exact HO_11.out, by repeat (first | (with_reducible first | exact HB.out | apply Qi | apply Qa | apply Qj | refine Qk ?_ GE127.out | refine Qk ?_ GE132.out) | exact HB.out)⟩

end Go.Proofs.Ytbkfjmpnbalkaaa.QTurnsPieces
