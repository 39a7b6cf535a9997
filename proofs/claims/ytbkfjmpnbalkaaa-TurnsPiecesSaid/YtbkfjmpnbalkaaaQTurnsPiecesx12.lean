-- Written by a program of this session (wip/ext.py) with the kit's print; Lean checks it.
import Derived.Test.YtbkfjmpnbalkaaaQTurnsPiecesx0
import Derived.Test.YtbkfjmpnbalkaaaQTurnsPiecesx11
namespace Go.Proofs.Ytbkfjmpnbalkaaa.QTurnsPieces
open Go.RowKit Go.Proofs.YtbkfjmpnbalkaaaW.PrintWords Go.Proofs.YtbkfjmpnbalkaaaW.PrintLast Go.Proofs.YtbkfjmpnbalkaaaW.PrintMore
attribute [local go_sem] max2_int min2_int max_two min_two max_three min_three max_four min_four   -- for this text's walks alone
set_option linter.unusedVariables false
set_option linter.unusedSimpArgs false

/-! ### Ql: function 26 -/
mutual
def Ql.l0 : Nat → List Int → Int → List Int → Int → Int → List (S92) → Option (List Int × Bool)
 | 0, _, _, _, _, _, _ => none
 | k + 1, x1, x9, x10, x11, x179000, x179001 => if x11 < (x1.length : Int) then (if 0 ≤ x11 then (if (rd x1 x11) < 0 then (Ql.j1 k x1 x9 x10 x11 true x179000 x179001) else (Ql.j1 k x1 x9 x10 x11 (decide ((rd x1 x11) ≥ (x179001.length : Int))) x179000 x179001)) else (none)) else (if (x1.length : Int) = 0 then (some (([] : List Int), false)) else (if 0 ≤ (wrap64 ((x1.length : Int) - 1)) then (if (wrap64 ((x1.length : Int) - 1)) < (x1.length : Int) then (if 0 ≤ (rd x1 (wrap64 ((x1.length : Int) - 1))) then (if (rd x1 (wrap64 ((x1.length : Int) - 1))) < (x179001.length : Int) then (if ((Qs x179001 (rd x1 (wrap64 ((x1.length : Int) - 1)))).f1) < x9 then (some (([] : List Int), false)) else (some (x10, true))) else (none)) else (none)) else (none)) else (none)))
def Ql.j1 : Nat → List Int → Int → List Int → Int → Bool → Int → List (S92) → Option (List Int × Bool)
 | 0, _, _, _, _, _, _, _ => none
 | k + 1, x1, x9, x10, x11, x39, x179000, x179001 => if x39 = true then (some (([] : List Int), false)) else (if 0 ≤ x11 then (if x11 < (x1.length : Int) then (if 0 ≤ (rd x1 x11) then (if (rd x1 x11) < (x179001.length : Int) then (if x11 = 0 then (if ((Qs x179001 (rd x1 x11)).f0) < x9 then (Ql.j2 k x1 x9 x10 x11 true x179000 x179001 ((Qs x179001 (rd x1 x11)).f0) ((Qs x179001 (rd x1 x11)).f1)) else (if x11 > 0 then (if 0 ≤ (wrap64 (x11 - 1)) then (if (wrap64 (x11 - 1)) < (x1.length : Int) then (if 0 ≤ (rd x1 (wrap64 (x11 - 1))) then (if (rd x1 (wrap64 (x11 - 1))) < (x179001.length : Int) then (Ql.j2 k x1 x9 x10 x11 (((Qs x179001 (rd x1 x11)).f0) != ((Qs x179001 (rd x1 (wrap64 (x11 - 1)))).f1)) x179000 x179001 ((Qs x179001 (rd x1 x11)).f0) ((Qs x179001 (rd x1 x11)).f1)) else (none)) else (none)) else (none)) else (none)) else (Ql.j2 k x1 x9 x10 x11 false x179000 x179001 ((Qs x179001 (rd x1 x11)).f0) ((Qs x179001 (rd x1 x11)).f1)))) else (if x11 > 0 then (if 0 ≤ (wrap64 (x11 - 1)) then (if (wrap64 (x11 - 1)) < (x1.length : Int) then (if 0 ≤ (rd x1 (wrap64 (x11 - 1))) then (if (rd x1 (wrap64 (x11 - 1))) < (x179001.length : Int) then (Ql.j2 k x1 x9 x10 x11 (((Qs x179001 (rd x1 x11)).f0) != ((Qs x179001 (rd x1 (wrap64 (x11 - 1)))).f1)) x179000 x179001 ((Qs x179001 (rd x1 x11)).f0) ((Qs x179001 (rd x1 x11)).f1)) else (none)) else (none)) else (none)) else (none)) else (Ql.j2 k x1 x9 x10 x11 false x179000 x179001 ((Qs x179001 (rd x1 x11)).f0) ((Qs x179001 (rd x1 x11)).f1)))) else (none)) else (none)) else (none)) else (none))
def Ql.j2 : Nat → List Int → Int → List Int → Int → Bool → Int → List (S92) → Int → Int → Option (List Int × Bool)
 | 0, _, _, _, _, _, _, _, _, _ => none
 | k + 1, x1, x9, x10, x11, x74, x179000, x179001, x186000, x186001 => if x74 = true then (some (([] : List Int), false)) else (if x186001 < x9 then (if x10.length < 17592186044416 then (Ql.l0 k x1 x9 (x10 ++ [x186001]) (wrap64 (x11 + 1)) x179000 x179001) else (none)) else (Ql.l0 k x1 x9 x10 (wrap64 (x11 + 1)) x179000 x179001))
end
def Ql.f (k : Nat) (l0_0 : List Int) (l0_1 : List (S158)) (l0_2 : List (S58)) (l1 : List Int) (l2 : List (S42)) : Option (List Int × Bool) := (Qm.f k l0_0 l0_1 l0_2 l2).bind fun bt174 => (Ql.l0 k l1 (l0_2.length : Int) ([] : List Int) 0 bt174.1 bt174.2)
theorem Ql.mono_l : ∀ k, (∀ y0 y1 y2 y3 y4 y5, LeO (Ql.l0 k y0 y1 y2 y3 y4 y5) (Ql.l0 (k + 1) y0 y1 y2 y3 y4 y5)) ∧ (∀ y0 y1 y2 y3 y4 y5 y6, LeO (Ql.j1 k y0 y1 y2 y3 y4 y5 y6) (Ql.j1 (k + 1) y0 y1 y2 y3 y4 y5 y6)) ∧ (∀ y0 y1 y2 y3 y4 y5 y6 y7 y8, LeO (Ql.j2 k y0 y1 y2 y3 y4 y5 y6 y7 y8) (Ql.j2 (k + 1) y0 y1 y2 y3 y4 y5 y6 y7 y8))
 | 0 => ⟨fun _ _ _ _ _ _ r h => by simp [Ql.l0] at h, fun _ _ _ _ _ _ _ r h => by simp [Ql.j1] at h, fun _ _ _ _ _ _ _ _ _ r h => by simp [Ql.j2] at h⟩
 | k + 1 => by
  obtain ⟨ih0, ih1, ih2⟩ := Ql.mono_l k
  refine ⟨?_, ?_, ?_⟩
  ·intro y0 y1 y2 y3 y4 y5
   unfold Ql.l0
   repeat' first
   | (with_reducible exact ih0 _ _ _ _ _ _)
   | (with_reducible exact ih1 _ _ _ _ _ _ _)
   | (with_reducible exact ih2 _ _ _ _ _ _ _ _ _)
   | (with_reducible exact Qm.mono _ _ _ _ _)
   | (with_reducible exact LeO.refl _)
   | (with_reducible exact LeO.none _)
   | (with_reducible refine LeO.ite ?_ ?_)
   | (with_reducible refine LeO.bind ?_ (fun _ => ?_))
   | exact ih0 _ _ _ _ _ _
   | exact ih1 _ _ _ _ _ _ _
   | exact ih2 _ _ _ _ _ _ _ _ _
   | exact Qm.mono _ _ _ _ _
   | exact LeO.none _
   | refine LeO.ite ?_ ?_
   | refine LeO.bind ?_ (fun _ => ?_)
  ·intro y0 y1 y2 y3 y4 y5 y6
   unfold Ql.j1
   repeat' first
   | (with_reducible exact ih0 _ _ _ _ _ _)
   | (with_reducible exact ih1 _ _ _ _ _ _ _)
   | (with_reducible exact ih2 _ _ _ _ _ _ _ _ _)
   | (with_reducible exact Qm.mono _ _ _ _ _)
   | (with_reducible exact LeO.refl _)
   | (with_reducible exact LeO.none _)
   | (with_reducible refine LeO.ite ?_ ?_)
   | (with_reducible refine LeO.bind ?_ (fun _ => ?_))
   | exact ih0 _ _ _ _ _ _
   | exact ih1 _ _ _ _ _ _ _
   | exact ih2 _ _ _ _ _ _ _ _ _
   | exact Qm.mono _ _ _ _ _
   | exact LeO.none _
   | refine LeO.ite ?_ ?_
   | refine LeO.bind ?_ (fun _ => ?_)
  ·intro y0 y1 y2 y3 y4 y5 y6 y7 y8
   unfold Ql.j2
   repeat' first
   | (with_reducible exact ih0 _ _ _ _ _ _)
   | (with_reducible exact ih1 _ _ _ _ _ _ _)
   | (with_reducible exact ih2 _ _ _ _ _ _ _ _ _)
   | (with_reducible exact Qm.mono _ _ _ _ _)
   | (with_reducible exact LeO.refl _)
   | (with_reducible exact LeO.none _)
   | (with_reducible refine LeO.ite ?_ ?_)
   | (with_reducible refine LeO.bind ?_ (fun _ => ?_))
   | exact ih0 _ _ _ _ _ _
   | exact ih1 _ _ _ _ _ _ _
   | exact ih2 _ _ _ _ _ _ _ _ _
   | exact Qm.mono _ _ _ _ _
   | exact LeO.none _
   | refine LeO.ite ?_ ?_
   | refine LeO.bind ?_ (fun _ => ?_)
theorem Ql.mono : ∀ a0 a1 a2 a3 a4 k, LeO (Ql.f k a0 a1 a2 a3 a4) (Ql.f (k + 1) a0 a1 a2 a3 a4) := by
 intro a0 a1 a2 a3 a4 k
 obtain ⟨ih0, ih1, ih2⟩ := Ql.mono_l k
 unfold Ql.f
 repeat' first
   | (with_reducible exact ih0 _ _ _ _ _ _)
   | (with_reducible exact ih1 _ _ _ _ _ _ _)
   | (with_reducible exact ih2 _ _ _ _ _ _ _ _ _)
   | (with_reducible exact Qm.mono _ _ _ _ _)
   | (with_reducible exact LeO.refl _)
   | (with_reducible exact LeO.none _)
   | (with_reducible refine LeO.ite ?_ ?_)
   | (with_reducible refine LeO.bind ?_ (fun _ => ?_))
   | exact ih0 _ _ _ _ _ _
   | exact ih1 _ _ _ _ _ _ _
   | exact ih2 _ _ _ _ _ _ _ _ _
   | exact Qm.mono _ _ _ _ _
   | exact LeO.none _
   | refine LeO.ite ?_ ?_
   | refine LeO.bind ?_ (fun _ => ?_)
def Ql.T7 : Bool × List (List Nat × List Nat) := (true, [([], []), ([], []), ([0, 1], [0, 1]), ([2], [2]), ([3], [3]), ([4], [4]), ([5], [5]), ([5], [5]), ([6, 7, 5], [5, 6, 7]), ([8, 5], [5, 8]), ([5], [5]), ([10, 5], [5, 10]), ([11, 5], [5, 11]), ([9, 12, 5], [5, 9, 12]), ([5, 13], [5, 13])])
def Ql.B7 : List Nat := [0, 0, 3, 7, 15, 31, 63, 63, 255, 511, 63, 1087, 3135, 8191, 16383]
theorem Ql.tab7 : rtab .any (opsOf Try.f26 7) = Ql.T7 := by kernel_rfl
theorem Ql.bits7 : waitsOk Ql.T7.2 Ql.B7 = true := by kernel_rfl
def Ql.T9 : Bool × List (List Nat × List Nat) := (true, [([], []), ([0], [0]), ([], []), ([], []), ([2, 3], [2, 3]), ([4], [4]), ([1, 5], [1, 5]), ([6], [6]), ([], []), ([8, 7, 0, 1, 2, 3, 4, 5, 6, 7, 8], [7, 8])])
def Ql.B9 : List Nat := [0, 1, 0, 0, 12, 28, 63, 127, 0, 511]
theorem Ql.tab9 : rtab .any (opsOf Try.f26 9) = Ql.T9 := by kernel_rfl
theorem Ql.bits9 : waitsOk Ql.T9.2 Ql.B9 = true := by kernel_rfl
def Ql.T10 : Bool × List (List Nat × List Nat) := (true, [([], []), ([0], [0]), ([1], [1]), ([2], [2]), ([3, 2], [2, 3]), ([2], [2]), ([4, 5, 2], [2, 4, 5]), ([2, 6], [2, 6]), ([7, 2], [7]), ([8], [8]), ([9, 8], [8, 9]), ([10, 8, 8], [8, 10]), ([11], [11]), ([12, 11], [11, 12]), ([11], [11]), ([14, 11], [11, 14]), ([11], [11]), ([11], [11]), ([17, 11], [11, 17]), ([16, 18, 11], [11, 16, 18]), ([19, 11], [11, 19]), ([15, 20, 11], [11, 15, 20]), ([21, 11], [11, 21]), ([22, 11], [11, 22]), ([13, 23, 11], [11, 13, 23]), ([11, 24, 8], [8, 11, 24]), ([8, 25], [8, 25])])
def Ql.B10 : List Nat := [0, 1, 3, 7, 15, 7, 63, 127, 255, 511, 1023, 2047, 4095, 8191, 4095, 20479, 4095, 4095, 135167, 462847, 987135, 2084863, 4182015, 8376319, 16777215, 33554431, 67108863]
theorem Ql.tab10 : rtab .any (opsOf Try.f26 10) = Ql.T10 := by kernel_rfl
theorem Ql.bits10 : waitsOk Ql.T10.2 Ql.B10 = true := by kernel_rfl
def Ql.T14 : Bool × List (List Nat × List Nat) := (true, [([], []), ([0], [0]), ([1], [1]), ([2], [2]), ([3], [3]), ([4, 3], [3, 4]), ([3], [3]), ([3], [3]), ([7, 3], [3, 7]), ([8, 3], [3, 8]), ([6, 9, 3], [3, 6, 9]), ([10, 3], [3, 10]), ([5, 11, 3], [3, 5, 11]), ([12, 3], [3, 12]), ([13, 3], [3, 13]), ([3], [3]), ([14, 15, 3], [3, 14, 15]), ([3, 16], [3, 16])])
def Ql.B14 : List Nat := [0, 1, 3, 7, 15, 31, 15, 15, 143, 399, 975, 1999, 4095, 8191, 16383, 15, 65535, 131071]
theorem Ql.tab14 : rtab .any (opsOf Try.f26 14) = Ql.T14 := by kernel_rfl
theorem Ql.bits14 : waitsOk Ql.T14.2 Ql.B14 = true := by kernel_rfl
set_option maxHeartbeats 8000000 in
set_option maxRecDepth 100000 in
theorem Ql.calls (k : Nat) (A0_0 : Option Addr) (c0_0 : Nat) (l0_0 : List Int) (A0_1 : Option Addr) (c0_1 : Nat) (l0_1 : List (S158)) (A0_2 : Option Addr) (c0_2 : Nat) (l0_2 : List (S58)) (A1 : Option Addr) (c1 : Nat) (l1 : List Int) (A2 : Option Addr) (c2 : Nat) (l2 : List (S42)) (r1 : List Int) (r2 : Bool) (w : World) (hr0_0 : Kd.C (Kd.int .i64) w A0_0 l0_0.length l0_0) (hc0_0 : l0_0.length ≤ c0_0) (hr0_1 : Kd.C k158 w A0_1 l0_1.length l0_1) (hc0_1 : l0_1.length ≤ c0_1) (hr0_2 : Kd.C k58 w A0_2 l0_2.length l0_2) (hc0_2 : l0_2.length ≤ c0_2) (hr1 : Kd.C (Kd.int .i64) w A1 l1.length l1) (hc1 : l1.length ≤ c1) (hr2 : Kd.C k42 w A2 l2.length l2) (hc2 : l2.length ≤ c2) (h : Ql.f k l0_0 l0_1 l0_2 l1 l2 = some (r1, r2)) :
  Calls Try.prog 26 #[.agg #[.slice A0_0 l0_0.length c0_0, .slice A0_1 l0_1.length c0_1, .slice A0_2 l0_2.length c0_2], .slice A1 l1.length c1, .slice A2 l2.length c2] w fun e w' => ∃ v0_ : Value, e = .returned (.tuple #[v0_, .bool r2]) ∧ Kd.R (Kd.int .i64) 3 w' w.heap.size (fun _ => True) v0_ r1 ∧ Below w.heap.size w w' := by
 have hu37 := Try.underlying37
 have hu51 := Try.underlying51
 have hu92 := Try.underlying92
 have HR0_0 := Qf.mk hr0_0
 have HC0_0 := Qf.mk hc0_0
 clear hr0_0 hc0_0
 have HR0_1 := Qf.mk hr0_1
 have HC0_1 := Qf.mk hc0_1
 clear hr0_1 hc0_1
 have HR0_2 := Qf.mk hr0_2
 have HC0_2 := Qf.mk hc0_2
 clear hr0_2 hc0_2
 have HR1 := Qf.mk hr1
 have HC1 := Qf.mk hc1
 clear hr1 hc1
 have HR2 := Qf.mk hr2
 have HC2 := Qf.mk hc2
 clear hr2 hc2
 have HB := Qf.mk (Below.refl w.heap.size w)
 have H : ((Qm.f k l0_0 l0_1 l0_2 l2).bind fun bt174 => (Ql.l0 k l1 (l0_2.length : Int) ([] : List Int) 0 bt174.1 bt174.2)) = some (r1, r2) := h
 clear h
 replace H := Option.bind_eq_some_iff.mp H
 obtain ⟨⟨t174, t175⟩, A40, H⟩ := H
 replace H : (Ql.l0 k l1 (l0_2.length : Int) ([] : List Int) 0 t174 t175) = some (r1, r2) := H
 have A4 := Qf.mk A40
 clear A40
 have H' := Qf.mk H
 clear H
 go_enter Try.func26, Try.ntmps26
 go_wp2_with (first | ((with_reducible refine QM (N := 3) rfl ?_); (try (refine Q5 (by rfl) ?_; dsimp only)); refine QI ?hg (N := 3) ?hd (cs := #[.slice A0_0 l0_0.length c0_0, .slice A0_1 l0_1.length c0_1, .slice A0_2 l0_2.length c0_2]) (t := 37) ?hr ?_; (case hd => rfl); (case hg => rfl); (case hr => first | (go_simp; done) | (go_simp; rfl)); intro gb173 hg w5 hbox hb; have n0_ := Qf.mk (Qo (by repeat (first | (with_reducible first | exact HB.out | apply Qi | apply Qa | apply Qj) | exact HB.out)) hb); have n1_ := Qf.mk (hbox); have n2_ := Qf.mk ((by rw [hg]; exact (Qp (by repeat (first | (with_reducible first | exact HB.out | apply Qi | apply Qa | apply Qj) | exact HB.out))) : w.heap.size ≤ gb173)); have n3_ := Qf.mk ((by rw [hg]; exact (Qp (by repeat (first | (with_reducible first | exact HB.out | apply Qi | apply Qa | apply Qj) | exact HB.out))) : w.heap.size ≤ gb173)); clear HB; have HB := n0_; have BK173 := n1_; have GW173 := n2_; have GE173 := n3_; clear n0_ n1_ n2_ n3_; clear hb hbox hg; have hcz6_0 : w5.cell? ⟨gb173, 0, none⟩ = some (.slice A0_0 l0_0.length c0_0) := (Qe BK173.out 0).trans rfl; have hcz6_1 : w5.cell? ⟨gb173, 1, none⟩ = some (.slice A0_1 l0_1.length c0_1) := (Qe BK173.out 1).trans rfl; have hcz6_2 : w5.cell? ⟨gb173, 2, none⟩ = some (.slice A0_2 l0_2.length c0_2) := (Qe BK173.out 2).trans rfl; have hfz6_0 := Qc BK173.out 0; have hfz6_1 := Qc BK173.out 1; have hfz6_2 := Qc BK173.out 2) | ((with_reducible refine Q4 (f := 43) rfl ?_); refine goesL_ (some 15) rfl rfl Try.func43 (by kernel_rfl) rfl #[.agg #[.slice A0_0 l0_0.length c0_0, .slice A0_1 l0_1.length c0_1, .slice A0_2 l0_2.length c0_2], .slice A2 l2.length c2] rfl (by (try simp only [List.map_toArray, List.map_cons, List.map_nil]); first | done | rfl | (simp only [List.length_drop, List.length_take]; rfl)) ?_; (with_reducible refine (Qm.calls k _ _ l0_0 _ _ l0_1 _ _ l0_2 _ _ l2 t174 t175 _ ?side1 ?side2 ?side3 ?side4 ?side5 ?side6 ?side7 ?side8 A4.out).mono ?_); (case side1 => repeat (first | exact (Kd.Qr HR0_0.out HB.out) | (with_reducible refine Kd.QG ?_ _) | (with_reducible refine Kd.QH ?_ _) | (with_reducible refine Kd.QO ?_))); (case side2 => exact HC0_0.out); (case side3 => repeat (first | exact (Kd.Qr HR0_1.out HB.out) | (with_reducible refine Kd.QG ?_ _) | (with_reducible refine Kd.QH ?_ _) | (with_reducible refine Kd.QO ?_))); (case side4 => exact HC0_1.out); (case side5 => repeat (first | exact (Kd.Qr HR0_2.out HB.out) | (with_reducible refine Kd.QG ?_ _) | (with_reducible refine Kd.QH ?_ _) | (with_reducible refine Kd.QO ?_))); (case side6 => exact HC0_2.out); (case side7 => repeat (first | exact (Kd.Qr HR2.out HB.out) | (with_reducible refine Kd.QG ?_ _) | (with_reducible refine Kd.QH ?_ _) | (with_reducible refine Kd.QO ?_))); (case side8 => exact HC2.out); rintro e w7 ⟨v176, rfl, ho0, hb⟩; refine ⟨_, rfl, ?_⟩; have n0_ := Qf.mk (Kd.R_lower ho0 (Qp (by repeat (first | (with_reducible first | exact HB.out | apply Qi | apply Qa | apply Qj | refine Qk ?_ GE173.out) | exact HB.out)))); have n1_ := Qf.mk (QF (g := gb173) (o := .cells #[.slice A0_0 l0_0.length c0_0, .slice A0_1 l0_1.length c0_1, .slice A0_2 l0_2.length c0_2] 37 (0, 0)) (by (with_reducible repeat (first | refine Qd ?_ _ | refine Qg ?_ | refine Qb ?_ _)); exact BK173.out) hb); have n2_ := Qf.mk (Qo (by repeat (first | (with_reducible first | exact HB.out | apply Qi | apply Qa | apply Qj | refine Qk ?_ GE173.out) | exact HB.out)) hb); clear BK173; clear HB; have HO177 := n0_; have BK173 := n1_; have HB := n2_; clear n0_ n1_ n2_; (try clear hb); (try clear hb2); (try clear hk); (try clear hi); (try clear ho0)) | ((with_reducible refine QM (N := 8) rfl ?_); (try (refine Q5 (by rfl) ?_; dsimp only)); refine QI ?hg (N := 8) ?hd (cs := #[.int .i64 0, .slice none 0 0]) (t := 51) ?hr ?_; (case hd => rfl); (case hg => rfl); (case hr => first | (go_simp; done) | (go_simp; rfl)); intro gb178 hg w8 hbox hb; have n0_ := Qf.mk (Kd.R_below (by (with_reducible repeat (first | apply Kd.QP | apply Kd.QQ | apply Kd.QT)); exact HO177.out) hb); have n1_ := Qf.mk (QF (g := gb173) (o := .cells #[.slice A0_0 l0_0.length c0_0, .slice A0_1 l0_1.length c0_1, .slice A0_2 l0_2.length c0_2] 37 (0, 0)) (by (with_reducible repeat (first | refine Qd ?_ _ | refine Qg ?_ | refine Qb ?_ _)); exact BK173.out) hb); have n2_ := Qf.mk (Qo (by repeat (first | (with_reducible first | exact HB.out | apply Qi | apply Qa | apply Qj | refine Qk ?_ GE173.out) | exact HB.out)) hb); have n3_ := Qf.mk (hbox); have n4_ := Qf.mk ((by rw [hg]; exact (Qp (by repeat (first | (with_reducible first | exact HB.out | apply Qi | apply Qa | apply Qj | refine Qk ?_ GE173.out) | exact HB.out))) : w.heap.size ≤ gb178)); have n5_ := Qf.mk ((by rw [hg]; exact (Qp (by repeat (first | (with_reducible first | exact HB.out | apply Qi | apply Qa | apply Qj | refine Qk ?_ GE173.out) | exact HB.out))) : w.heap.size ≤ gb178)); have n6_ := Qf.mk ((by rw [hg]; exact Nat.ne_of_lt (QR (g := gb173) (o := .cells #[.slice A0_0 l0_0.length c0_0, .slice A0_1 l0_1.length c0_1, .slice A0_2 l0_2.length c0_2] 37 (0, 0)) (by (with_reducible repeat (first | refine Qd ?_ _ | refine Qg ?_ | refine Qb ?_ _)); exact BK173.out)) : gb173 ≠ gb178)); have n7_ := Qf.mk ((by rw [hg]; exact Nat.ne_of_gt (QR (g := gb173) (o := .cells #[.slice A0_0 l0_0.length c0_0, .slice A0_1 l0_1.length c0_1, .slice A0_2 l0_2.length c0_2] 37 (0, 0)) (by (with_reducible repeat (first | refine Qd ?_ _ | refine Qg ?_ | refine Qb ?_ _)); exact BK173.out)) : gb178 ≠ gb173)); clear HO177; clear BK173; clear HB; have HO177 := n0_; have BK173 := n1_; have HB := n2_; have BK178 := n3_; have GW178 := n4_; have GE178 := n5_; have NB173_178 := n6_; have NB178_173 := n7_; clear n0_ n1_ n2_ n3_ n4_ n5_ n6_ n7_; clear hb hbox hg; have hnb9 := NB178_173.out; have hnc9 := NB173_178.out; have hcz10_0 : w8.cell? ⟨gb178, 0, none⟩ = some (.int .i64 0) := (Qe BK178.out 0).trans rfl; have hcz10_1 : w8.cell? ⟨gb178, 1, none⟩ = some (.slice none 0 0) := (Qe BK178.out 1).trans rfl; have hfz10_0 := Qc BK178.out 0; have hfz10_1 := Qc BK178.out 1; obtain ⟨Ao11, co11, eo11⟩ := Kd.R_slice HO177.out; subst eo11; have hcz12_0 : w8.cell? ⟨gb173, 0, none⟩ = some (.slice A0_0 l0_0.length c0_0) := (Qe BK173.out 0).trans rfl; have hcz12_1 : w8.cell? ⟨gb173, 1, none⟩ = some (.slice A0_1 l0_1.length c0_1) := (Qe BK173.out 1).trans rfl; have hcz12_2 : w8.cell? ⟨gb173, 2, none⟩ = some (.slice A0_2 l0_2.length c0_2) := (Qe BK173.out 2).trans rfl; have hfz12_0 := Qc BK173.out 0; have hfz12_1 := Qc BK173.out 1; have hfz12_2 := Qc BK173.out 2))
 go_loopg [10, 11] k (fun kq v10 v11 w' => ∃ (x10_1 : List Int) (x11_1 : Int), v11 = .int .i64 x11_1 ∧ Qf (Ql.l0 kq l1 (l0_2.length : Int) x10_1 x11_1 t174 t175 = some (r1, r2)) ∧ Qf (kq ≤ k) ∧ Qf (Kd.R (Kd.int .i64) 3 w' w.heap.size (fun _ => True) v10 x10_1) ∧ Qf (Kd.R k92 92 w' w.heap.size (fun _ => True) (.slice Ao11 t175.length co11) t175) ∧ Qf (w'.heap[gb173]? = some (.cells #[(.slice A0_0 l0_0.length c0_0), (.slice A0_1 l0_1.length c0_1), (.slice A0_2 l0_2.length c0_2)] 37 (0, 0))) ∧ Qf (w'.heap[gb178]? = some (.cells #[.int .i64 t174, (.slice Ao11 t175.length co11)] 51 (0, 0))) ∧ Qf (Below w.heap.size w w'))
 case atStart => exact ⟨(([] : List Int)), (0), (by first | rfl | (simp; done) | (simp [*]; done)), H', ⟨Nat.le_refl _⟩, ⟨by first | exact Kd.R_nil _ _ _ _ _ | exact Kd.N_nil _ _ _ _ _ | exact Kd.V_nil _ _ _ _ _ | exact Kd.Q_nil _ _ _ _ _ | exact Kd.S_nil _ _ _ _ _⟩, ⟨by (with_reducible repeat (first | apply Kd.QP | apply Kd.QQ | apply Kd.QT)); exact Kd.Q9 (Kd.R_far (p := ⟨gb178, 1, none⟩) (Kd.R_far (p := ⟨gb178, 0, none⟩) (Kd.R_types HO177.out BK178.out (by decide)) (fun _ hk => hk.2) (.int .i64 t174)) (fun _ hk => hk.2) (.slice Ao11 t175.length co11)) (fun _ hk => trivial)⟩, ⟨by (with_reducible repeat (first | refine Qd ?_ _ | refine Qg ?_ | refine Qb ?_ _)); refine Qv ?_ NB173_178.out _; (with_reducible repeat (first | refine Qd ?_ _ | refine Qg ?_ | refine Qb ?_ _)); refine Qv ?_ NB173_178.out _; (with_reducible repeat (first | refine Qd ?_ _ | refine Qg ?_ | refine Qb ?_ _)); exact BK173.out⟩, ⟨by (with_reducible repeat (first | refine Qd ?_ _ | refine Qg ?_ | refine Qb ?_ _)); refine Qy (cs := #[.int .i64 t174, .slice none 0 0]) ?_ 1 _ rfl; (with_reducible repeat (first | refine Qd ?_ _ | refine Qg ?_ | refine Qb ?_ _)); refine Qy (cs := #[.int .i64 0, .slice none 0 0]) ?_ 0 _ rfl; (with_reducible repeat (first | refine Qd ?_ _ | refine Qg ?_ | refine Qb ?_ _)); exact BK178.out⟩, ⟨by repeat (first | (with_reducible first | exact HB.out | apply Qi | apply Qa | apply Qj | refine Qk ?_ GE173.out | refine Qk ?_ GE178.out) | exact HB.out)⟩⟩
 case round =>
  clear H'
  try clear c1
  try clear c2
  try clear p2
  try clear c4
  try clear c9
  try clear hcz10_0
  try clear hcz10_1
  try clear hcz12_0
  try clear hcz12_1
  try clear hcz12_2
  try clear hcz6_0
  try clear hcz6_1
  try clear hcz6_2
  try clear hfz10_0
  try clear hfz10_1
  try clear hfz12_0
  try clear hfz12_1
  try clear hfz12_2
  try clear hfz6_0
  try clear hfz6_1
  try clear hfz6_2
  obtain ⟨x10_1, x11_1, rfl, HA, HK1, HO_10, HO_179001, BK173, BK178, HB⟩ := hrel
  cases gk with
  | zero => exact absurd HA.out (by simp [Ql.l0])
  | succ k1 =>
   have H := HA.out
   clear HA
   simp only [Ql.l0] at H
   by_cases c13 : x11_1 < (l1.length : Int)
   ·rw [if_pos c13] at H
    have c13b0 : decide (x11_1 < (l1.length : Int)) = true := decide_eq_true c13
    clear c13
    have HC14 := Qf.mk H
    clear H
    go_upto_region 7 with (fail)
    go_cut [39] (fun v39 wc => ∃ (kq : Nat) (x39_13 : Bool), v39 = .bool x39_13 ∧ Qf (Ql.j1 kq l1 (l0_2.length : Int) x10_1 x11_1 x39_13 t174 t175 = some (r1, r2)) ∧ Qf (kq ≤ k1) ∧ Qf (Kd.R (Kd.int .i64) 3 wc w.heap.size (fun _ => True) u10 x10_1) ∧ Qf (Kd.R k92 92 wc w.heap.size (fun _ => True) (.slice Ao11 t175.length co11) t175) ∧ Qf (wc.heap[gb173]? = some (.cells #[(.slice A0_0 l0_0.length c0_0), (.slice A0_1 l0_1.length c0_1), (.slice A0_2 l0_2.length c0_2)] 37 (0, 0))) ∧ Qf (wc.heap[gb178]? = some (.cells #[.int .i64 t174, (.slice Ao11 t175.length co11)] 51 (0, 0))) ∧ Qf (Below w.heap.size w wc))
    case first =>
     have H := HC14.out
     clear HC14
     by_cases c15 : 0 ≤ x11_1
     ·rw [if_pos c15] at H
      have c15b0 : decide (0 ≤ x11_1) = true := decide_eq_true c15
      clear c15
      (first | rw [c15b0] | (simp only [Qt, Qu]; rw [c15b0]) | skip)
      by_cases c16 : (rd l1 x11_1) < 0
      ·rw [if_pos c16] at H
       have c16b0 : decide ((rd l1 x11_1) < 0) = true := decide_eq_true c16
       clear c16
       have H' := Qf.mk H
       clear H
       try go_wp2
       have n0_ := Qf.mk (Kd.QT HO_10.out)
       have n1_ := Qf.mk (Kd.QT HO_179001.out)
       have n2_ := Qf.mk (Qg BK173.out)
       have n3_ := Qf.mk (Qg BK178.out)
       have n4_ := Qf.mk (Qj HB.out)
       clear HO_10
       clear HO_179001
       clear BK173
       clear BK178
       clear HB
       have HO_10 := n0_
       have HO_179001 := n1_
       have BK173 := n2_
       have BK178 := n3_
       have HB := n4_
       clear n0_ n1_ n2_ n3_ n4_
       have p181 : 0 ≤ (x11_1 : Int) := of_decide_eq_true (by first | (with_reducible assumption) | assumption)
       have q181 : x11_1 < (l1.length : Int) := of_decide_eq_true (by first | (with_reducible assumption) | assumption)
       obtain ⟨ad181, e181, hx181_0⟩ := Kd.at_int HR1.out x11_1 p181 q181
       have hw181_0 := hx181_0
       cases e181
       replace hx181_0 := (HB.out.cell (World.block_lt_of_cell? w _ hx181_0)).trans hx181_0
       replace p181 := eq_true p181
       replace q181 := eq_true q181
       refine start_ (n := 15) (S := fun w' => w'.cell? (ad181.add (x11_1).toNat) = some (.int .i64 (rd l1 x11_1))) (ds := []) #[false, false, false, false, false, false, false, false, false, false, false, false, false, false, false] (by kernel_rfl) rfl rfl (((HB.out.cell (World.block_lt_of_cell? w _ hw181_0)).trans hw181_0)) (fun hHeld => ?_); refine with_tabW Ql.tab7 Ql.bits7 (fun HT_ HW_ => ?_)
       generalize wr.drew = w17 at HO_10 HO_179001 BK173 BK178 HB hx181_0 hHeld ⊢
       refine QL (i := 0) (N := some 25) (v := ?_) (a' := ?_) #[true, false, false, false, false, false, false, false, false, false, false, false, false, false, false] rfl rfl (QD HT_.out (by kernel_rfl)) (fun _ _ _ h => h) (Or.inl ⟨by rfl, ?_⟩) ?_ ?_
       rotate_left
       ·intro w'
        go_simp
        with_reducible rfl
       rotate_left
       ·simp only [Act.put, List.setIfInBounds_toArray, List.set_cons_zero, List.set_cons_succ, Qt, Qu]
        rfl
       refine QL (i := 1) (N := some 26) (v := ?_) (a' := ?_) #[true, true, false, false, false, false, false, false, false, false, false, false, false, false, false] rfl rfl (QD HT_.out (by kernel_rfl)) (fun _ _ _ h => h) (Or.inl ⟨by rfl, ?_⟩) ?_ ?_
       rotate_left
       ·intro w'
        go_simp
        with_reducible rfl
       rotate_left
       ·simp only [Act.put, List.setIfInBounds_toArray, List.set_cons_zero, List.set_cons_succ, Qt, Qu]
        rfl
       refine QL (i := 2) (N := some 27) (v := ?_) (a' := ?_) #[true, true, true, false, false, false, false, false, false, false, false, false, false, false, false] rfl rfl (QD HT_.out (by kernel_rfl)) (fun _ _ _ h => h) (Or.inl ⟨by rfl, ?_⟩) ?_ ?_
       rotate_left
       ·intro w'
        go_simp
        with_reducible rfl
       rotate_left
       ·simp only [Act.put, List.setIfInBounds_toArray, List.set_cons_zero, List.set_cons_succ, Qt, Qu]
        rfl
       refine take_ (i := 3) (N := some 28) (v := ?_) (a' := ?_) #[true, true, true, true, false, false, false, false, false, false, false, false, false, false, false] rfl rfl (Q8 HT_.out HW_.out (by kernel_rfl)) (fun _ _ _ h => h) (Or.inl ⟨by rfl, ?_⟩) hHeld ?_ ?_
       rotate_left
       ·intro w' s0
        go_simp
        with_reducible rfl
       rotate_left
       ·simp only [Act.put, List.setIfInBounds_toArray, List.set_cons_zero, List.set_cons_succ, Qt, Qu]
        rfl
       refine QL (i := 4) (N := some 29) (v := ?_) (a' := ?_) #[true, true, true, true, true, false, false, false, false, false, false, false, false, false, false] rfl rfl (QD HT_.out (by kernel_rfl)) (fun _ _ _ h => h) (Or.inl ⟨by rfl, ?_⟩) ?_ ?_
       rotate_left
       ·intro w'
        go_simp
        with_reducible rfl
       rotate_left
       ·simp only [Act.put, List.setIfInBounds_toArray, List.set_cons_zero, List.set_cons_succ, Qt, Qu]
        rfl
       refine QL (i := 5) (N := some 30) (v := ?_) (a' := ?_) #[true, true, true, true, true, true, false, false, false, false, false, false, false, false, false] rfl rfl (QD HT_.out (by kernel_rfl)) (fun _ _ _ h => h) (Or.inl ⟨by rfl, ?_⟩) ?_ ?_
       rotate_left
       ·intro w'
        go_simp
        with_reducible rfl
       rotate_left
       ·simp only [Act.put, List.setIfInBounds_toArray, List.set_cons_zero, List.set_cons_succ, Qt, Qu]
        rfl
       refine QL (i := 6) (N := some 31) (v := undef) (a' := ?_) #[true, true, true, true, true, true, true, false, false, false, false, false, false, false, false] rfl rfl (QD HT_.out (by kernel_rfl)) (fun _ _ _ h => h) (Or.inr ⟨by rfl, rfl⟩) ?_ ?_
       rotate_left
       ·simp only [Act.put, List.setIfInBounds_toArray, List.set_cons_zero, List.set_cons_succ, Qt, Qu]
        rfl
       refine QL (i := 7) (N := some 32) (v := undef) (a' := ?_) #[true, true, true, true, true, true, true, true, false, false, false, false, false, false, false] rfl rfl (QD HT_.out (by kernel_rfl)) (fun _ _ _ h => h) (Or.inr ⟨by rfl, rfl⟩) ?_ ?_
       rotate_left
       ·simp only [Act.put, List.setIfInBounds_toArray, List.set_cons_zero, List.set_cons_succ, Qt, Qu]
        rfl
       refine QL (i := 8) (N := some 33) (v := undef) (a' := ?_) #[true, true, true, true, true, true, true, true, true, false, false, false, false, false, false] rfl rfl (QD HT_.out (by kernel_rfl)) (fun _ _ _ h => h) (Or.inr ⟨by rfl, rfl⟩) ?_ ?_
       rotate_left
       ·simp only [Act.put, List.setIfInBounds_toArray, List.set_cons_zero, List.set_cons_succ, Qt, Qu]
        rfl
       refine QL (i := 9) (N := some 34) (v := undef) (a' := ?_) #[true, true, true, true, true, true, true, true, true, true, false, false, false, false, false] rfl rfl (QD HT_.out (by kernel_rfl)) (fun _ _ _ h => h) (Or.inr ⟨by rfl, rfl⟩) ?_ ?_
       rotate_left
       ·simp only [Act.put, List.setIfInBounds_toArray, List.set_cons_zero, List.set_cons_succ, Qt, Qu]
        rfl
       refine QL (i := 10) (N := some 35) (v := undef) (a' := ?_) #[true, true, true, true, true, true, true, true, true, true, true, false, false, false, false] rfl rfl (QD HT_.out (by kernel_rfl)) (fun _ _ _ h => h) (Or.inr ⟨by rfl, rfl⟩) ?_ ?_
       rotate_left
       ·simp only [Act.put, List.setIfInBounds_toArray, List.set_cons_zero, List.set_cons_succ, Qt, Qu]
        rfl
       refine QL (i := 11) (N := some 36) (v := undef) (a' := ?_) #[true, true, true, true, true, true, true, true, true, true, true, true, false, false, false] rfl rfl (QD HT_.out (by kernel_rfl)) (fun _ _ _ h => h) (Or.inr ⟨by rfl, rfl⟩) ?_ ?_
       rotate_left
       ·simp only [Act.put, List.setIfInBounds_toArray, List.set_cons_zero, List.set_cons_succ, Qt, Qu]
        rfl
       refine QL (i := 12) (N := some 37) (v := undef) (a' := ?_) #[true, true, true, true, true, true, true, true, true, true, true, true, true, false, false] rfl rfl (QD HT_.out (by kernel_rfl)) (fun _ _ _ h => h) (Or.inr ⟨by rfl, rfl⟩) ?_ ?_
       rotate_left
       ·simp only [Act.put, List.setIfInBounds_toArray, List.set_cons_zero, List.set_cons_succ, Qt, Qu]
        rfl
       refine QL (i := 13) (N := some 38) (v := undef) (a' := ?_) #[true, true, true, true, true, true, true, true, true, true, true, true, true, true, false] rfl rfl (QD HT_.out (by kernel_rfl)) (fun _ _ _ h => h) (Or.inr ⟨by rfl, rfl⟩) ?_ ?_
       rotate_left
       ·simp only [Act.put, List.setIfInBounds_toArray, List.set_cons_zero, List.set_cons_succ, Qt, Qu]
        rfl
       refine QL (i := 14) (N := some 39) (v := ?_) (a' := ?_) #[true, true, true, true, true, true, true, true, true, true, true, true, true, true, true] rfl rfl (QD HT_.out (by kernel_rfl)) (fun _ _ _ h => h) (Or.inl ⟨by rfl, ?_⟩) ?_ ?_
       rotate_left
       ·intro w'
        go_simp
        with_reducible rfl
       rotate_left
       ·simp only [Act.put, List.setIfInBounds_toArray, List.set_cons_zero, List.set_cons_succ, Qt, Qu]
        rfl
       refine done_ (done_of HT_.out (by kernel_rfl)) ?_
       try go_wp2
       go_meet
       case rel => exact ⟨_, (true), (by first | rfl | (simp; done) | (simp [*]; done)), H', ⟨by have := HK1.out; first | omega | exact Nat.le_refl _⟩, ⟨by (with_reducible repeat (first | apply Kd.QP | apply Kd.QQ | apply Kd.QT)); exact HO_10.out⟩, ⟨by (with_reducible repeat (first | apply Kd.QP | apply Kd.QQ | apply Kd.QT)); exact HO_179001.out⟩, ⟨by (with_reducible repeat (first | refine Qd ?_ _ | refine Qg ?_ | refine Qb ?_ _)); exact BK173.out⟩, ⟨by (with_reducible repeat (first | refine Qd ?_ _ | refine Qg ?_ | refine Qb ?_ _)); exact BK178.out⟩, ⟨by repeat (first | (with_reducible first | exact HB.out | apply Qi | apply Qa | apply Qj | refine Qk ?_ GE173.out | refine Qk ?_ GE178.out) | exact HB.out)⟩⟩
      ·rw [if_neg c16] at H
       have c16b0 : decide ((rd l1 x11_1) < 0) = false := decide_eq_false c16
       clear c16
       have H' := Qf.mk H
       clear H
       try go_wp2
       have n0_ := Qf.mk (Kd.QT HO_10.out)
       have n1_ := Qf.mk (Kd.QT HO_179001.out)
       have n2_ := Qf.mk (Qg BK173.out)
       have n3_ := Qf.mk (Qg BK178.out)
       have n4_ := Qf.mk (Qj HB.out)
       clear HO_10
       clear HO_179001
       clear BK173
       clear BK178
       clear HB
       have HO_10 := n0_
       have HO_179001 := n1_
       have BK173 := n2_
       have BK178 := n3_
       have HB := n4_
       clear n0_ n1_ n2_ n3_ n4_
       have p181 : 0 ≤ (x11_1 : Int) := of_decide_eq_true (by first | (with_reducible assumption) | assumption)
       have q181 : x11_1 < (l1.length : Int) := of_decide_eq_true (by first | (with_reducible assumption) | assumption)
       obtain ⟨ad181, e181, hx181_0⟩ := Kd.at_int HR1.out x11_1 p181 q181
       have hw181_0 := hx181_0
       cases e181
       replace hx181_0 := (HB.out.cell (World.block_lt_of_cell? w _ hx181_0)).trans hx181_0
       replace p181 := eq_true p181
       replace q181 := eq_true q181
       have p182 : 0 ≤ (x11_1 : Int) := of_decide_eq_true (by first | (with_reducible assumption) | assumption)
       have q182 : x11_1 < (l1.length : Int) := of_decide_eq_true (by first | (with_reducible assumption) | assumption)
       obtain ⟨ad182, e182, hx182_0⟩ := Kd.at_int HR1.out x11_1 p182 q182
       have hw182_0 := hx182_0
       obtain rfl : ad181 = ad182 := (by injection e182)
       replace hx182_0 := (HB.out.cell (World.block_lt_of_cell? w _ hx182_0)).trans hx182_0
       replace p182 := eq_true p182
       replace q182 := eq_true q182
       refine start_ (n := 15) (S := fun w' => w'.cell? ⟨gb178, 0, none⟩ = some (.int .i64 t174) ∧ w'.cell? ⟨gb178, 1, none⟩ = some (.slice Ao11 t175.length co11) ∧ w'.cell? (ad181.add (x11_1).toNat) = some (.int .i64 (rd l1 x11_1)) ∧ w'.cell? (ad181.add (x11_1).toNat) = some (.int .i64 (rd l1 x11_1))) (ds := []) #[false, false, false, false, false, false, false, false, false, false, false, false, false, false, false] (by kernel_rfl) rfl rfl ⟨(Qe BK178.out 0).trans rfl, (Qe BK178.out 1).trans rfl, ((HB.out.cell (World.block_lt_of_cell? w _ hw181_0)).trans hw181_0), ((HB.out.cell (World.block_lt_of_cell? w _ hw182_0)).trans hw182_0)⟩ (fun hHeld => ?_); refine with_tabW Ql.tab7 Ql.bits7 (fun HT_ HW_ => ?_)
       generalize wr.drew = w18 at HO_10 HO_179001 BK173 BK178 HB hx181_0 hx182_0 hHeld ⊢
       refine QL (i := 0) (N := some 25) (v := ?_) (a' := ?_) #[true, false, false, false, false, false, false, false, false, false, false, false, false, false, false] rfl rfl (QD HT_.out (by kernel_rfl)) (fun _ _ _ h => h) (Or.inl ⟨by rfl, ?_⟩) ?_ ?_
       rotate_left
       ·intro w'
        go_simp
        with_reducible rfl
       rotate_left
       ·simp only [Act.put, List.setIfInBounds_toArray, List.set_cons_zero, List.set_cons_succ, Qt, Qu]
        rfl
       refine QL (i := 1) (N := some 26) (v := ?_) (a' := ?_) #[true, true, false, false, false, false, false, false, false, false, false, false, false, false, false] rfl rfl (QD HT_.out (by kernel_rfl)) (fun _ _ _ h => h) (Or.inl ⟨by rfl, ?_⟩) ?_ ?_
       rotate_left
       ·intro w'
        go_simp
        with_reducible rfl
       rotate_left
       ·simp only [Act.put, List.setIfInBounds_toArray, List.set_cons_zero, List.set_cons_succ, Qt, Qu]
        rfl
       refine QL (i := 2) (N := some 27) (v := ?_) (a' := ?_) #[true, true, true, false, false, false, false, false, false, false, false, false, false, false, false] rfl rfl (QD HT_.out (by kernel_rfl)) (fun _ _ _ h => h) (Or.inl ⟨by rfl, ?_⟩) ?_ ?_
       rotate_left
       ·intro w'
        go_simp
        with_reducible rfl
       rotate_left
       ·simp only [Act.put, List.setIfInBounds_toArray, List.set_cons_zero, List.set_cons_succ, Qt, Qu]
        rfl
       refine take_ (i := 3) (N := some 28) (v := ?_) (a' := ?_) #[true, true, true, true, false, false, false, false, false, false, false, false, false, false, false] rfl rfl (Q8 HT_.out HW_.out (by kernel_rfl)) (fun _ _ _ h => h) (Or.inl ⟨by rfl, ?_⟩) hHeld ?_ ?_
       rotate_left
       ·rintro w' ⟨s0, s1, s2, s3⟩
        go_simp
        with_reducible rfl
       rotate_left
       ·simp only [Act.put, List.setIfInBounds_toArray, List.set_cons_zero, List.set_cons_succ, Qt, Qu]
        rfl
       refine QL (i := 4) (N := some 29) (v := ?_) (a' := ?_) #[true, true, true, true, true, false, false, false, false, false, false, false, false, false, false] rfl rfl (QD HT_.out (by kernel_rfl)) (fun _ _ _ h => h) (Or.inl ⟨by rfl, ?_⟩) ?_ ?_
       rotate_left
       ·intro w'
        go_simp
        with_reducible rfl
       rotate_left
       ·simp only [Act.put, List.setIfInBounds_toArray, List.set_cons_zero, List.set_cons_succ, Qt, Qu]
        rfl
       refine QL (i := 5) (N := some 30) (v := ?_) (a' := ?_) #[true, true, true, true, true, true, false, false, false, false, false, false, false, false, false] rfl rfl (QD HT_.out (by kernel_rfl)) (fun _ _ _ h => h) (Or.inl ⟨by rfl, ?_⟩) ?_ ?_
       rotate_left
       ·intro w'
        go_simp
        with_reducible rfl
       rotate_left
       ·simp only [Act.put, List.setIfInBounds_toArray, List.set_cons_zero, List.set_cons_succ, Qt, Qu]
        rfl
       refine QL (i := 6) (N := some 31) (v := ?_) (a' := ?_) #[true, true, true, true, true, true, true, false, false, false, false, false, false, false, false] rfl rfl (QD HT_.out (by kernel_rfl)) (fun _ _ _ h => h) (Or.inl ⟨by rfl, ?_⟩) ?_ ?_
       rotate_left
       ·intro w'
        go_simp
        with_reducible rfl
       rotate_left
       ·simp only [Act.put, List.setIfInBounds_toArray, List.set_cons_zero, List.set_cons_succ, Qt, Qu]
        rfl
       refine QL (i := 7) (N := some 32) (v := ?_) (a' := ?_) #[true, true, true, true, true, true, true, true, false, false, false, false, false, false, false] rfl rfl (QD HT_.out (by kernel_rfl)) (fun _ _ _ h => h) (Or.inl ⟨by rfl, ?_⟩) ?_ ?_
       rotate_left
       ·intro w'
        go_simp
        with_reducible rfl
       rotate_left
       ·simp only [Act.put, List.setIfInBounds_toArray, List.set_cons_zero, List.set_cons_succ, Qt, Qu]
        rfl
       refine QL (i := 8) (N := some 33) (v := ?_) (a' := ?_) #[true, true, true, true, true, true, true, true, true, false, false, false, false, false, false] rfl rfl (QD HT_.out (by kernel_rfl)) (fun _ _ _ h => h) (Or.inl ⟨by rfl, ?_⟩) ?_ ?_
       rotate_left
       ·intro w'
        go_simp
        with_reducible rfl
       rotate_left
       ·simp only [Act.put, List.setIfInBounds_toArray, List.set_cons_zero, List.set_cons_succ, Qt, Qu]
        rfl
       refine QL (i := 10) (N := some 35) (v := ?_) (a' := ?_) #[true, true, true, true, true, true, true, true, true, false, true, false, false, false, false] rfl rfl (QD HT_.out (by kernel_rfl)) (fun _ _ _ h => h) (Or.inl ⟨by rfl, ?_⟩) ?_ ?_
       rotate_left
       ·intro w'
        go_simp
        with_reducible rfl
       rotate_left
       ·simp only [Act.put, List.setIfInBounds_toArray, List.set_cons_zero, List.set_cons_succ, Qt, Qu]
        rfl
       refine take_ (i := 9) (N := some 34) (v := ?_) (a' := ?_) #[true, true, true, true, true, true, true, true, true, true, true, false, false, false, false] rfl rfl (Q8 HT_.out HW_.out (by kernel_rfl)) (fun _ _ _ h => h) (Or.inl ⟨by rfl, ?_⟩) hHeld ?_ ?_
       rotate_left
       ·rintro w' ⟨s0, s1, s2, s3⟩
        go_simp
        with_reducible rfl
       rotate_left
       ·simp only [Act.put, List.setIfInBounds_toArray, List.set_cons_zero, List.set_cons_succ, Qt, Qu]
        rfl
       refine take_ (i := 11) (N := some 36) (v := ?_) (a' := ?_) #[true, true, true, true, true, true, true, true, true, true, true, true, false, false, false] rfl rfl (Q8 HT_.out HW_.out (by kernel_rfl)) (fun _ _ _ h => h) (Or.inl ⟨by rfl, ?_⟩) hHeld ?_ ?_
       rotate_left
       ·rintro w' ⟨s0, s1, s2, s3⟩
        go_simp
        with_reducible rfl
       rotate_left
       ·simp only [Act.put, List.setIfInBounds_toArray, List.set_cons_zero, List.set_cons_succ, Qt, Qu]
        rfl
       refine QL (i := 12) (N := some 37) (v := ?_) (a' := ?_) #[true, true, true, true, true, true, true, true, true, true, true, true, true, false, false] rfl rfl (QD HT_.out (by kernel_rfl)) (fun _ _ _ h => h) (Or.inl ⟨by rfl, ?_⟩) ?_ ?_
       rotate_left
       ·intro w'
        go_simp
        with_reducible rfl
       rotate_left
       ·simp only [Act.put, List.setIfInBounds_toArray, List.set_cons_zero, List.set_cons_succ, Qt, Qu]
        rfl
       refine QL (i := 13) (N := some 38) (v := ?_) (a' := ?_) #[true, true, true, true, true, true, true, true, true, true, true, true, true, true, false] rfl rfl (QD HT_.out (by kernel_rfl)) (fun _ _ _ h => h) (Or.inl ⟨by rfl, ?_⟩) ?_ ?_
       rotate_left
       ·intro w'
        go_simp
        with_reducible rfl
       rotate_left
       ·simp only [Act.put, List.setIfInBounds_toArray, List.set_cons_zero, List.set_cons_succ, Qt, Qu]
        rfl
       refine QL (i := 14) (N := some 39) (v := ?_) (a' := ?_) #[true, true, true, true, true, true, true, true, true, true, true, true, true, true, true] rfl rfl (QD HT_.out (by kernel_rfl)) (fun _ _ _ h => h) (Or.inl ⟨by rfl, ?_⟩) ?_ ?_
       rotate_left
       ·intro w'
        go_simp
        with_reducible rfl
       rotate_left
       ·simp only [Act.put, List.setIfInBounds_toArray, List.set_cons_zero, List.set_cons_succ, Qt, Qu]
        rfl
       refine done_ (done_of HT_.out (by kernel_rfl)) ?_
       try go_wp2
       go_meet
       case rel => exact ⟨_, (decide ((rd l1 x11_1) ≥ (t175.length : Int))), (by first | rfl | (simp; done) | (simp [*]; done)), H', ⟨by have := HK1.out; first | omega | exact Nat.le_refl _⟩, ⟨by (with_reducible repeat (first | apply Kd.QP | apply Kd.QQ | apply Kd.QT)); exact HO_10.out⟩, ⟨by (with_reducible repeat (first | apply Kd.QP | apply Kd.QQ | apply Kd.QT)); exact HO_179001.out⟩, ⟨by (with_reducible repeat (first | refine Qd ?_ _ | refine Qg ?_ | refine Qb ?_ _)); exact BK173.out⟩, ⟨by (with_reducible repeat (first | refine Qd ?_ _ | refine Qg ?_ | refine Qb ?_ _)); exact BK178.out⟩, ⟨by repeat (first | (with_reducible first | exact HB.out | apply Qi | apply Qa | apply Qj | refine Qk ?_ GE173.out | refine Qk ?_ GE178.out) | exact HB.out)⟩⟩
     ·rw [if_neg c15] at H
      exact absurd H (by simp)
    case rest =>
     clear HC14
     try clear c1
     try clear p1
     try clear q1
     try clear hx1
     try clear c2
     try clear p2
     try clear c4
     try clear c9
     try clear c13
     try clear c13b0
     try clear c15
     try clear c15b0
     try clear c16
     try clear c16b0
     try clear p18
     try clear q18
     try clear hx18
     try clear hcz10_0
     try clear hcz10_1
     try clear hcz12_0
     try clear hcz12_1
     try clear hcz12_2
     try clear hcz6_0
     try clear hcz6_1
     try clear hcz6_2
     try clear hfz10_0
     try clear hfz10_1
     try clear hfz12_0
     try clear hfz12_1
     try clear hfz12_2
     try clear hfz6_0
     try clear hfz6_1
     try clear hfz6_2
     try clear hx181_0
     try clear hx182_0
     try clear p181
     try clear p182
     try clear p2
     try clear q181
     try clear q182
     obtain ⟨kq, x39_13, rfl, HA, HJ13, HO_10, HO_179001, BK173, BK178, HB⟩ := hcut
     cases kq with
     | zero => exact absurd HA.out (by simp [Ql.j1])
     | succ kj13 =>
      have H := HA.out
      clear HA
      simp only [Ql.j1] at H
      by_cases c19 : x39_13 = true
      ·subst c19
       have H1 : (some (([] : List Int), false)) = some (r1, r2) := by rw [if_pos rfl] at H; exact H
       clear H
       have H := H1
       clear H1
       simp only [Option.some.injEq, Prod.mk.injEq] at H
       obtain ⟨rfl, rfl⟩ := H
       go_wp2
       go_ret2
       exact ⟨_, by first | rfl | (simp [Qw, Qx] <;> rfl) | (simp [*, Qw, Qx] <;> rfl), by first | exact Kd.R_nil _ _ _ _ _ | exact Kd.N_nil _ _ _ _ _ | exact Kd.V_nil _ _ _ _ _ | exact Kd.Q_nil _ _ _ _ _ | exact Kd.S_nil _ _ _ _ _, by repeat (first | (with_reducible first | exact HB.out | apply Qi | apply Qa | apply Qj | refine Qk ?_ GE173.out | refine Qk ?_ GE178.out) | exact HB.out)⟩
      ·replace c19 := Bool.eq_false_iff.mpr c19
       subst c19
       have H1 : (if 0 ≤ x11_1 then (if x11_1 < (l1.length : Int) then (if 0 ≤ (rd l1 x11_1) then (if (rd l1 x11_1) < (t175.length : Int) then (if x11_1 = 0 then (if ((Qs t175 (rd l1 x11_1)).f0) < (l0_2.length : Int) then (Ql.j2 kj13 l1 (l0_2.length : Int) x10_1 x11_1 true t174 t175 ((Qs t175 (rd l1 x11_1)).f0) ((Qs t175 (rd l1 x11_1)).f1)) else (if x11_1 > 0 then (if 0 ≤ (wrap64 (x11_1 - 1)) then (if (wrap64 (x11_1 - 1)) < (l1.length : Int) then (if 0 ≤ (rd l1 (wrap64 (x11_1 - 1))) then (if (rd l1 (wrap64 (x11_1 - 1))) < (t175.length : Int) then (Ql.j2 kj13 l1 (l0_2.length : Int) x10_1 x11_1 (((Qs t175 (rd l1 x11_1)).f0) != ((Qs t175 (rd l1 (wrap64 (x11_1 - 1)))).f1)) t174 t175 ((Qs t175 (rd l1 x11_1)).f0) ((Qs t175 (rd l1 x11_1)).f1)) else (none)) else (none)) else (none)) else (none)) else (Ql.j2 kj13 l1 (l0_2.length : Int) x10_1 x11_1 false t174 t175 ((Qs t175 (rd l1 x11_1)).f0) ((Qs t175 (rd l1 x11_1)).f1)))) else (if x11_1 > 0 then (if 0 ≤ (wrap64 (x11_1 - 1)) then (if (wrap64 (x11_1 - 1)) < (l1.length : Int) then (if 0 ≤ (rd l1 (wrap64 (x11_1 - 1))) then (if (rd l1 (wrap64 (x11_1 - 1))) < (t175.length : Int) then (Ql.j2 kj13 l1 (l0_2.length : Int) x10_1 x11_1 (((Qs t175 (rd l1 x11_1)).f0) != ((Qs t175 (rd l1 (wrap64 (x11_1 - 1)))).f1)) t174 t175 ((Qs t175 (rd l1 x11_1)).f0) ((Qs t175 (rd l1 x11_1)).f1)) else (none)) else (none)) else (none)) else (none)) else (Ql.j2 kj13 l1 (l0_2.length : Int) x10_1 x11_1 false t174 t175 ((Qs t175 (rd l1 x11_1)).f0) ((Qs t175 (rd l1 x11_1)).f1)))) else (none)) else (none)) else (none)) else (none)) = some (r1, r2) := by rw [if_neg (show ¬ (false = true) by decide)] at H; exact H
       clear H
       have H := H1
       clear H1
       by_cases c20 : 0 ≤ x11_1
       ·rw [if_pos c20] at H
        have c20b0 : decide (0 ≤ x11_1) = true := decide_eq_true c20
        clear c20
        by_cases c21 : x11_1 < (l1.length : Int)
        ·rw [if_pos c21] at H
         have c21b0 : decide (x11_1 < (l1.length : Int)) = true := decide_eq_true c21
         clear c21
         by_cases c22 : 0 ≤ (rd l1 x11_1)
         ·rw [if_pos c22] at H
          have c22b0 : decide (0 ≤ (rd l1 x11_1)) = true := decide_eq_true c22
          clear c22
          by_cases c23 : (rd l1 x11_1) < (t175.length : Int)
          ·rw [if_pos c23] at H
           have c23b0 : decide ((rd l1 x11_1) < (t175.length : Int)) = true := decide_eq_true c23
           clear c23
           have HC24 := Qf.mk H
           clear H
           try go_wp2
           have n0_ := Qf.mk (Kd.QT HO_10.out)
           have n1_ := Qf.mk (Kd.QT HO_179001.out)
           have n2_ := Qf.mk (Qg BK173.out)
           have n3_ := Qf.mk (Qg BK178.out)
           have n4_ := Qf.mk (Qj HB.out)
           clear HO_10
           clear HO_179001
           clear BK173
           clear BK178
           clear HB
           have HO_10 := n0_
           have HO_179001 := n1_
           have BK173 := n2_
           have BK178 := n3_
           have HB := n4_
           clear n0_ n1_ n2_ n3_ n4_
           have p183 : 0 ≤ (x11_1 : Int) := of_decide_eq_true (by first | (with_reducible assumption) | assumption)
           have q183 : x11_1 < (l1.length : Int) := of_decide_eq_true (by first | (with_reducible assumption) | assumption)
           obtain ⟨ad183, e183, hx183_0⟩ := Kd.at_int HR1.out x11_1 p183 q183
           have hw183_0 := hx183_0
           cases e183
           replace hx183_0 := (HB.out.cell (World.block_lt_of_cell? w _ hx183_0)).trans hx183_0
           replace p183 := eq_true p183
           replace q183 := eq_true q183
           have p184 : 0 ≤ ((rd l1 x11_1) : Int) := of_decide_eq_true (by first | (with_reducible assumption) | assumption)
           have q184 : (rd l1 x11_1) < (t175.length : Int) := of_decide_eq_true (by first | (with_reducible assumption) | assumption)
           obtain ⟨ad184, e184, hx184_0, hx184_1⟩ := at_T92 (Kd.R_reads' HO_179001.out).2.2 (rd l1 x11_1) p184 q184
           cases e184
           replace p184 := eq_true p184
           replace q184 := eq_true q184
           refine start_ (n := 10) (S := fun w' => w'.cell? ⟨gb178, 0, none⟩ = some (.int .i64 t174) ∧ w'.cell? ⟨gb178, 1, none⟩ = some (.slice (some ad184) t175.length co11) ∧ w'.cell? (ad183.add (x11_1).toNat) = some (.int .i64 (rd l1 x11_1)) ∧ w'.cell? (ad184.add (((rd l1 x11_1)).toNat * 2)) = some (.int .i64 ((Qs t175 (rd l1 x11_1)).f0)) ∧ w'.cell? ⟨(ad184.add (((rd l1 x11_1)).toNat * 2)).block, (ad184.add (((rd l1 x11_1)).toNat * 2)).off + 1, none⟩ = some (.int .i64 ((Qs t175 (rd l1 x11_1)).f1))) (ds := []) #[false, false, false, false, false, false, false, false, false, false] (by kernel_rfl) rfl rfl ⟨(Qe BK178.out 0).trans rfl, (Qe BK178.out 1).trans rfl, ((HB.out.cell (World.block_lt_of_cell? w _ hw183_0)).trans hw183_0), hx184_0, hx184_1⟩ (fun hHeld => ?_); refine with_tabW Ql.tab9 Ql.bits9 (fun HT_ HW_ => ?_)
           generalize wc.drew = w25 at HO_10 HO_179001 BK173 BK178 HB hx183_0 hx184_0 hx184_1 hHeld ⊢
           refine QL (i := 0) (N := some 40) (v := ?_) (a' := ?_) #[true, false, false, false, false, false, false, false, false, false] rfl rfl (QD HT_.out (by kernel_rfl)) (fun _ _ _ h => h) (Or.inl ⟨by rfl, ?_⟩) ?_ ?_
           rotate_left
           ·intro w'
            go_simp
            with_reducible rfl
           rotate_left
           ·simp only [Act.put, List.setIfInBounds_toArray, List.set_cons_zero, List.set_cons_succ, Qt, Qu]
            rfl
           refine QL (i := 2) (N := some 42) (v := ?_) (a' := ?_) #[true, false, true, false, false, false, false, false, false, false] rfl rfl (QD HT_.out (by kernel_rfl)) (fun _ _ _ h => h) (Or.inl ⟨by rfl, ?_⟩) ?_ ?_
           rotate_left
           ·intro w'
            go_simp
            with_reducible rfl
           rotate_left
           ·simp only [Act.put, List.setIfInBounds_toArray, List.set_cons_zero, List.set_cons_succ, Qt, Qu]
            rfl
           refine QL (i := 3) (N := some 43) (v := ?_) (a' := ?_) #[true, false, true, true, false, false, false, false, false, false] rfl rfl (QD HT_.out (by kernel_rfl)) (fun _ _ _ h => h) (Or.inl ⟨by rfl, ?_⟩) ?_ ?_
           rotate_left
           ·intro w'
            go_simp
            with_reducible rfl
           rotate_left
           ·simp only [Act.put, List.setIfInBounds_toArray, List.set_cons_zero, List.set_cons_succ, Qt, Qu]
            rfl
           refine QL (i := 4) (N := some 44) (v := ?_) (a' := ?_) #[true, false, true, true, true, false, false, false, false, false] rfl rfl (QD HT_.out (by kernel_rfl)) (fun _ _ _ h => h) (Or.inl ⟨by rfl, ?_⟩) ?_ ?_
           rotate_left
           ·intro w'
            go_simp
            with_reducible rfl
           rotate_left
           ·simp only [Act.put, List.setIfInBounds_toArray, List.set_cons_zero, List.set_cons_succ, Qt, Qu]
            rfl
           refine take_ (i := 1) (N := some 41) (v := ?_) (a' := ?_) #[true, true, true, true, true, false, false, false, false, false] rfl rfl (Q8 HT_.out HW_.out (by kernel_rfl)) (fun _ _ _ h => h) (Or.inl ⟨by rfl, ?_⟩) hHeld ?_ ?_
           rotate_left
           ·rintro w' ⟨s0, s1, s2, s3, s4⟩
            go_simp
            with_reducible rfl
           rotate_left
           ·simp only [Act.put, List.setIfInBounds_toArray, List.set_cons_zero, List.set_cons_succ, Qt, Qu]
            rfl
           refine take_ (i := 5) (N := some 45) (v := ?_) (a' := ?_) #[true, true, true, true, true, true, false, false, false, false] rfl rfl (Q8 HT_.out HW_.out (by kernel_rfl)) (fun _ _ _ h => h) (Or.inl ⟨by rfl, ?_⟩) hHeld ?_ ?_
           rotate_left
           ·rintro w' ⟨s0, s1, s2, s3, s4⟩
            go_simp
            with_reducible rfl
           rotate_left
           ·simp only [Act.put, List.setIfInBounds_toArray, List.set_cons_zero, List.set_cons_succ, Qt, Qu]
            rfl
           refine QL (i := 6) (N := some 46) (v := ?_) (a' := ?_) #[true, true, true, true, true, true, true, false, false, false] rfl rfl (QD HT_.out (by kernel_rfl)) (fun _ _ _ h => h) (Or.inl ⟨by rfl, ?_⟩) ?_ ?_
           rotate_left
           ·intro w'
            go_simp
            with_reducible rfl
           rotate_left
           ·simp only [Act.put, List.setIfInBounds_toArray, List.set_cons_zero, List.set_cons_succ, Qt, Qu]
            rfl
           refine take_ (i := 7) (N := some 47) (v := ?_) (a' := ?_) #[true, true, true, true, true, true, true, true, false, false] rfl rfl (Q8 HT_.out HW_.out (by kernel_rfl)) (fun _ _ _ h => h) (Or.inl ⟨by rfl, ?_⟩) hHeld ?_ ?_
           rotate_left
           ·rintro w' ⟨s0, s1, s2, s3, s4⟩
            go_simp
            with_reducible rfl
           rotate_left
           ·simp only [Act.put, List.setIfInBounds_toArray, List.set_cons_zero, List.set_cons_succ, Qt, Qu]
            rfl
           refine one_ (i := 8) (N := some 12) #[true, true, true, true, true, true, true, true, true, false] rfl rfl (one_of HT_.out (by kernel_rfl)) (by decide) (fun K hK => ?_)
           refine box_step ?hg (N := 12) ?hd (cs := #[.int .i64 0, .int .i64 0]) (t := 92) ?hr ?_; (case hd => rfl); (case hg => rfl); (case hr => first | (go_simp; done) | (go_simp; rfl))
           intro gb185 hg w26 hbox hb
           have HS3_ := (hb.cell (World.block_lt_of_cell? _ _ (hHeld.2.2.2.1))).trans (hHeld.2.2.2.1)
           have HS4_ := (hb.cell (World.block_lt_of_cell? _ _ (hHeld.2.2.2.2))).trans (hHeld.2.2.2.2)
           have n0_ := Qf.mk (Kd.R_below (by (with_reducible repeat (first | apply Kd.QP | apply Kd.QQ | apply Kd.QT)); exact HO_10.out) hb)
           have n1_ := Qf.mk (Kd.R_below (Kd.R_elderB (by (with_reducible repeat (first | apply Kd.QP | apply Kd.QQ | apply Kd.QT)); exact HO_179001.out) gb185 (Nat.le_of_eq hg.symm)) hb)
           have n2_ := Qf.mk (QF (g := gb173) (o := .cells #[.slice A0_0 l0_0.length c0_0, .slice A0_1 l0_1.length c0_1, .slice A0_2 l0_2.length c0_2] 37 (0, 0)) (by (with_reducible repeat (first | refine Qd ?_ _ | refine Qg ?_ | refine Qb ?_ _)); exact BK173.out) hb)
           have n3_ := Qf.mk (QF (g := gb178) (o := .cells #[.int .i64 t174, .slice (some ad184) t175.length co11] 51 (0, 0)) (by (with_reducible repeat (first | refine Qd ?_ _ | refine Qg ?_ | refine Qb ?_ _)); exact BK178.out) hb)
           have n4_ := Qf.mk (Qo (by repeat (first | (with_reducible first | exact HB.out | apply Qi | apply Qa | apply Qj | refine Qk ?_ GE173.out | refine Qk ?_ GE178.out) | exact HB.out)) hb)
           have n5_ := Qf.mk (hbox)
           have n6_ := Qf.mk ((by rw [hg]; exact (Qp (by repeat (first | (with_reducible first | exact HB.out | apply Qi | apply Qa | apply Qj | refine Qk ?_ GE173.out | refine Qk ?_ GE178.out) | exact HB.out))) : w.heap.size ≤ gb185))
           have n7_ := Qf.mk ((by rw [hg]; exact (Qp (by repeat (first | (with_reducible first | exact HB.out | apply Qi | apply Qa | apply Qj | refine Qk ?_ GE173.out | refine Qk ?_ GE178.out) | exact HB.out))) : w.heap.size ≤ gb185))
           have n8_ := Qf.mk ((by rw [hg]; exact Nat.ne_of_lt (QR (g := gb173) (o := .cells #[.slice A0_0 l0_0.length c0_0, .slice A0_1 l0_1.length c0_1, .slice A0_2 l0_2.length c0_2] 37 (0, 0)) (by (with_reducible repeat (first | refine Qd ?_ _ | refine Qg ?_ | refine Qb ?_ _)); exact BK173.out)) : gb173 ≠ gb185))
           have n9_ := Qf.mk ((by rw [hg]; exact Nat.ne_of_gt (QR (g := gb173) (o := .cells #[.slice A0_0 l0_0.length c0_0, .slice A0_1 l0_1.length c0_1, .slice A0_2 l0_2.length c0_2] 37 (0, 0)) (by (with_reducible repeat (first | refine Qd ?_ _ | refine Qg ?_ | refine Qb ?_ _)); exact BK173.out)) : gb185 ≠ gb173))
           have n10_ := Qf.mk ((by rw [hg]; exact Nat.ne_of_lt (QR (g := gb178) (o := .cells #[.int .i64 t174, .slice (some ad184) t175.length co11] 51 (0, 0)) (by (with_reducible repeat (first | refine Qd ?_ _ | refine Qg ?_ | refine Qb ?_ _)); exact BK178.out)) : gb178 ≠ gb185))
           have n11_ := Qf.mk ((by rw [hg]; exact Nat.ne_of_gt (QR (g := gb178) (o := .cells #[.int .i64 t174, .slice (some ad184) t175.length co11] 51 (0, 0)) (by (with_reducible repeat (first | refine Qd ?_ _ | refine Qg ?_ | refine Qb ?_ _)); exact BK178.out)) : gb185 ≠ gb178))
           clear HO_10
           clear HO_179001
           clear BK173
           clear BK178
           clear HB
           have HO_10 := n0_
           have HO_179001 := n1_
           have BK173 := n2_
           have BK178 := n3_
           have HB := n4_
           have BK185 := n5_
           have GW185 := n6_
           have GE185 := n7_
           have NB173_185 := n8_
           have NB185_173 := n9_
           have NB178_185 := n10_
           have NB185_178 := n11_
           clear n0_ n1_ n2_ n3_ n4_ n5_ n6_ n7_ n8_ n9_ n10_ n11_
           clear hb hbox hg
           refine hK.out _ _ ⟨(Qe BK178.out 0).trans rfl, (Qe BK178.out 1).trans rfl, ((HB.out.cell (World.block_lt_of_cell? w _ hw183_0)).trans hw183_0), HS3_, HS4_⟩ (fun hHeld => ?_)
           clear hK K
           refine norm_ (a' := ?_) ?_ ?_
           rotate_left
           ·show Act.put _ (some 12) _ = _
            simp only [Act.put, List.setIfInBounds_toArray, List.set_cons_zero, List.set_cons_succ, Qt, Qu]
            rfl
           refine one_ (i := 9) (N := none) #[true, true, true, true, true, true, true, true, true, true] rfl rfl (one_of HT_.out (by kernel_rfl)) (by decide) (fun K hK => ?_)
           have hs27 : w26.cell? ⟨gb185, 0, none⟩ = some (.int .i64 0) := (Qe BK185.out 0).trans rfl
           have hfs27 := Qc BK185.out 0
           have hns27_0 := NB173_185.out
           have hns27_1 := NB178_185.out
           have hms27_0 := NB185_173.out
           have hms27_1 := NB185_178.out
           have hs28 : w26.cell? ⟨gb185, 1, none⟩ = some (.int .i64 0) := (Qe BK185.out 1).trans rfl
           have hfs28 := Qc BK185.out 1
           have hns28_0 := NB173_185.out
           have hns28_1 := NB178_185.out
           have hms28_0 := NB185_173.out
           have hms28_1 := NB185_178.out
           refine skip_ (w1 := ?_) (by rfl) rfl ?_ ?_
           rotate_left
           ·go_simp
            rfl
           refine hK.out _ _ ⟨((cell_far (p := ⟨gb185, _, none⟩) NB178_185.out _).trans (((cell_far (p := ⟨gb185, _, none⟩) NB178_185.out _).trans (hHeld.1)))), ((cell_far (p := ⟨gb185, _, none⟩) NB178_185.out _).trans (((cell_far (p := ⟨gb185, _, none⟩) NB178_185.out _).trans (hHeld.2.1)))), ((cell_far (p := ⟨gb185, _, none⟩) (by first | exact Nat.ne_of_lt (Nat.lt_of_lt_of_le (by have := World.block_lt_of_cell? _ _ hw183_0; first | rwa [add_block] at this | exact this) GW185.out) | (rw [add_block]; exact Nat.ne_of_lt (Nat.lt_of_lt_of_le (by have := World.block_lt_of_cell? _ _ hw183_0; first | rwa [add_block] at this | exact this) GW185.out)) | (show (Addr.add _ _).block ≠ _; rw [add_block]; exact Nat.ne_of_lt (Nat.lt_of_lt_of_le (by have := World.block_lt_of_cell? _ _ hw183_0; first | rwa [add_block] at this | exact this) GW185.out)) | (dsimp only; exact Nat.ne_of_lt (Nat.lt_of_lt_of_le (by have := World.block_lt_of_cell? _ _ hw183_0; first | rwa [add_block] at this | exact this) GW185.out))) _).trans (((cell_far (p := ⟨gb185, _, none⟩) (by first | exact Nat.ne_of_lt (Nat.lt_of_lt_of_le (by have := World.block_lt_of_cell? _ _ hw183_0; first | rwa [add_block] at this | exact this) GW185.out) | (rw [add_block]; exact Nat.ne_of_lt (Nat.lt_of_lt_of_le (by have := World.block_lt_of_cell? _ _ hw183_0; first | rwa [add_block] at this | exact this) GW185.out)) | (show (Addr.add _ _).block ≠ _; rw [add_block]; exact Nat.ne_of_lt (Nat.lt_of_lt_of_le (by have := World.block_lt_of_cell? _ _ hw183_0; first | rwa [add_block] at this | exact this) GW185.out)) | (dsimp only; exact Nat.ne_of_lt (Nat.lt_of_lt_of_le (by have := World.block_lt_of_cell? _ _ hw183_0; first | rwa [add_block] at this | exact this) GW185.out))) _).trans (hHeld.2.2.1)))), ((cell_far (p := ⟨gb185, _, none⟩) (by first | exact Kd.own_blk (Kd.R_away HO_179001.out (fun _ hk => hk.2)) | (rw [add_block]; exact Kd.own_blk (Kd.R_away HO_179001.out (fun _ hk => hk.2))) | (show (Addr.add _ _).block ≠ _; rw [add_block]; exact Kd.own_blk (Kd.R_away HO_179001.out (fun _ hk => hk.2))) | (dsimp only; exact Kd.own_blk (Kd.R_away HO_179001.out (fun _ hk => hk.2)))) _).trans (((cell_far (p := ⟨gb185, _, none⟩) (by first | exact Kd.own_blk (Kd.R_away HO_179001.out (fun _ hk => hk.2)) | (rw [add_block]; exact Kd.own_blk (Kd.R_away HO_179001.out (fun _ hk => hk.2))) | (show (Addr.add _ _).block ≠ _; rw [add_block]; exact Kd.own_blk (Kd.R_away HO_179001.out (fun _ hk => hk.2))) | (dsimp only; exact Kd.own_blk (Kd.R_away HO_179001.out (fun _ hk => hk.2)))) _).trans (hHeld.2.2.2.1)))), ((cell_far (p := ⟨gb185, _, none⟩) (by first | exact Kd.own_blk (Kd.R_away HO_179001.out (fun _ hk => hk.2)) | (rw [add_block]; exact Kd.own_blk (Kd.R_away HO_179001.out (fun _ hk => hk.2))) | (show (Addr.add _ _).block ≠ _; rw [add_block]; exact Kd.own_blk (Kd.R_away HO_179001.out (fun _ hk => hk.2))) | (dsimp only; exact Kd.own_blk (Kd.R_away HO_179001.out (fun _ hk => hk.2)))) _).trans (((cell_far (p := ⟨gb185, _, none⟩) (by first | exact Kd.own_blk (Kd.R_away HO_179001.out (fun _ hk => hk.2)) | (rw [add_block]; exact Kd.own_blk (Kd.R_away HO_179001.out (fun _ hk => hk.2))) | (show (Addr.add _ _).block ≠ _; rw [add_block]; exact Kd.own_blk (Kd.R_away HO_179001.out (fun _ hk => hk.2))) | (dsimp only; exact Kd.own_blk (Kd.R_away HO_179001.out (fun _ hk => hk.2)))) _).trans (hHeld.2.2.2.2))))⟩ (fun hHeld => ?_)
           clear hK K
           refine done_ (done_of HT_.out (by kernel_rfl)) ?_
           go_upto_region 10 with (fail)
           go_cut [74] (fun v74 wc => ∃ (kq : Nat) (x74_23 : Bool), v74 = .bool x74_23 ∧ Qf (Ql.j2 kq l1 (l0_2.length : Int) x10_1 x11_1 x74_23 t174 t175 ((Qs t175 (rd l1 x11_1)).f0) ((Qs t175 (rd l1 x11_1)).f1) = some (r1, r2)) ∧ Qf (kq ≤ kj13) ∧ Qf (Kd.R (Kd.int .i64) 3 wc w.heap.size (fun _ => True) u10 x10_1) ∧ Qf (Kd.R k92 92 wc w.heap.size (fun k_ => k_ ≠ gb185) (.slice (some ad184) t175.length co11) t175) ∧ Qf (wc.heap[gb173]? = some (.cells #[(.slice A0_0 l0_0.length c0_0), (.slice A0_1 l0_1.length c0_1), (.slice A0_2 l0_2.length c0_2)] 37 (0, 0))) ∧ Qf (wc.heap[gb178]? = some (.cells #[.int .i64 t174, (.slice (some ad184) t175.length co11)] 51 (0, 0))) ∧ Qf (wc.heap[gb185]? = some (.cells #[.int .i64 ((Qs t175 (rd l1 x11_1)).f0), .int .i64 ((Qs t175 (rd l1 x11_1)).f1)] 92 (0, 0))) ∧ Qf (Below w.heap.size w wc))
           case first =>
            have H := HC24.out
            clear HC24
            by_cases c29 : x11_1 = 0
            ·rw [if_pos c29] at H
             have c29b0 : (x11_1 == 0) = true := beq_iff_eq.mpr c29
             have c29b1 : (x11_1 != 0) = false := bne_eq_false_iff_eq.mpr c29
             clear c29
             (first | rw [c29b0] | (simp only [Qt, Qu]; rw [c29b0]) | skip)
             by_cases c30 : ((Qs t175 (rd l1 x11_1)).f0) < (l0_2.length : Int)
             ·rw [if_pos c30] at H
              have c30b0 : decide (((Qs t175 (rd l1 x11_1)).f0) < (l0_2.length : Int)) = true := decide_eq_true c30
              clear c30
              have H' := Qf.mk H
              clear H
              try go_wp2
              have n0_ : Qf (Kd.R (Kd.int .i64) 3 ((w26.setCell ⟨gb185, 0, none⟩ (.int .i64 ((Qs t175 (rd l1 x11_1)).f0))).setCell ⟨gb185, 1, none⟩ (.int .i64 ((Qs t175 (rd l1 x11_1)).f1))) w.heap.size (fun _ => True) u10 x10_1) := ⟨by (with_reducible repeat (first | apply Kd.QP | apply Kd.QQ | apply Kd.QT)); exact Kd.Q9 (Kd.R_far (p := ⟨gb185, 1, none⟩) (Kd.R_far (p := ⟨gb185, 0, none⟩) (Kd.R_types HO_10.out BK185.out (by decide)) (fun _ hk => hk.2) (.int .i64 ((Qs t175 (rd l1 x11_1)).f0))) (fun _ hk => hk.2) (.int .i64 ((Qs t175 (rd l1 x11_1)).f1))) (fun _ hk => trivial)⟩
              have n1_ : Qf (Kd.R k92 92 ((w26.setCell ⟨gb185, 0, none⟩ (.int .i64 ((Qs t175 (rd l1 x11_1)).f0))).setCell ⟨gb185, 1, none⟩ (.int .i64 ((Qs t175 (rd l1 x11_1)).f1))) w.heap.size (fun k_ => k_ ≠ gb185) (.slice (some ad184) t175.length co11) t175) := ⟨by (with_reducible repeat (first | apply Kd.QP | apply Kd.QQ | apply Kd.QT)); exact Kd.Q9 (Kd.R_far (p := ⟨gb185, 1, none⟩) (Kd.R_far (p := ⟨gb185, 0, none⟩) (Kd.Q9 HO_179001.out (fun k_ hk => (⟨hk, hk.2⟩ : _ ∧ k_ ≠ gb185))) (fun _ hk => hk.2) (.int .i64 ((Qs t175 (rd l1 x11_1)).f0))) (fun _ hk => hk.2) (.int .i64 ((Qs t175 (rd l1 x11_1)).f1))) (fun _ hk => hk.1.2)⟩
              have n2_ : Qf (((w26.setCell ⟨gb185, 0, none⟩ (.int .i64 ((Qs t175 (rd l1 x11_1)).f0))).setCell ⟨gb185, 1, none⟩ (.int .i64 ((Qs t175 (rd l1 x11_1)).f1))).heap[gb173]? = some (.cells #[.slice A0_0 l0_0.length c0_0, .slice A0_1 l0_1.length c0_1, .slice A0_2 l0_2.length c0_2] 37 (0, 0))) := ⟨by (with_reducible repeat (first | refine Qd ?_ _ | refine Qg ?_ | refine Qb ?_ _)); refine Qv ?_ NB173_185.out _; (with_reducible repeat (first | refine Qd ?_ _ | refine Qg ?_ | refine Qb ?_ _)); refine Qv ?_ NB173_185.out _; (with_reducible repeat (first | refine Qd ?_ _ | refine Qg ?_ | refine Qb ?_ _)); exact BK173.out⟩
              have n3_ : Qf (((w26.setCell ⟨gb185, 0, none⟩ (.int .i64 ((Qs t175 (rd l1 x11_1)).f0))).setCell ⟨gb185, 1, none⟩ (.int .i64 ((Qs t175 (rd l1 x11_1)).f1))).heap[gb178]? = some (.cells #[.int .i64 t174, .slice (some ad184) t175.length co11] 51 (0, 0))) := ⟨by (with_reducible repeat (first | refine Qd ?_ _ | refine Qg ?_ | refine Qb ?_ _)); refine Qv ?_ NB178_185.out _; (with_reducible repeat (first | refine Qd ?_ _ | refine Qg ?_ | refine Qb ?_ _)); refine Qv ?_ NB178_185.out _; (with_reducible repeat (first | refine Qd ?_ _ | refine Qg ?_ | refine Qb ?_ _)); exact BK178.out⟩
              have n4_ : Qf (((w26.setCell ⟨gb185, 0, none⟩ (.int .i64 ((Qs t175 (rd l1 x11_1)).f0))).setCell ⟨gb185, 1, none⟩ (.int .i64 ((Qs t175 (rd l1 x11_1)).f1))).heap[gb185]? = some (.cells #[.int .i64 ((Qs t175 (rd l1 x11_1)).f0), .int .i64 ((Qs t175 (rd l1 x11_1)).f1)] 92 (0, 0))) := ⟨by (with_reducible repeat (first | refine Qd ?_ _ | refine Qg ?_ | refine Qb ?_ _)); refine Qy (cs := #[.int .i64 ((Qs t175 (rd l1 x11_1)).f0), .int .i64 0]) ?_ 1 _ rfl; (with_reducible repeat (first | refine Qd ?_ _ | refine Qg ?_ | refine Qb ?_ _)); refine Qy (cs := #[.int .i64 0, .int .i64 0]) ?_ 0 _ rfl; (with_reducible repeat (first | refine Qd ?_ _ | refine Qg ?_ | refine Qb ?_ _)); exact BK185.out⟩
              have n5_ : Qf (Below w.heap.size w ((w26.setCell ⟨gb185, 0, none⟩ (.int .i64 ((Qs t175 (rd l1 x11_1)).f0))).setCell ⟨gb185, 1, none⟩ (.int .i64 ((Qs t175 (rd l1 x11_1)).f1)))) := ⟨by repeat (first | (with_reducible first | exact HB.out | apply Qi | apply Qa | apply Qj | refine Qk ?_ GE173.out | refine Qk ?_ GE178.out | refine Qk ?_ GE185.out) | exact HB.out)⟩
              (try clear HO_10)
              (try clear HO_179001)
              (try clear BK173)
              (try clear BK178)
              (try clear BK185)
              (try clear HB)
              generalize ((w26.setCell ⟨gb185, 0, none⟩ (.int .i64 ((Qs t175 (rd l1 x11_1)).f0))).setCell ⟨gb185, 1, none⟩ (.int .i64 ((Qs t175 (rd l1 x11_1)).f1))) = w31 at n0_ n1_ n2_ n3_ n4_ n5_ ⊢
              have HO_10 := n0_
              have HO_179001 := n1_
              have BK173 := n2_
              have BK178 := n3_
              have BK185 := n4_
              have HB := n5_
              clear n0_ n1_ n2_ n3_ n4_ n5_
              have n0_ := Qf.mk (Kd.QT HO_10.out)
              have n1_ := Qf.mk (Kd.QT HO_179001.out)
              have n2_ := Qf.mk (Qg BK173.out)
              have n3_ := Qf.mk (Qg BK178.out)
              have n4_ := Qf.mk (Qg BK185.out)
              have n5_ := Qf.mk (Qj HB.out)
              clear HO_10
              clear HO_179001
              clear BK173
              clear BK178
              clear BK185
              clear HB
              have HO_10 := n0_
              have HO_179001 := n1_
              have BK173 := n2_
              have BK178 := n3_
              have BK185 := n4_
              have HB := n5_
              clear n0_ n1_ n2_ n3_ n4_ n5_
              refine start_ (n := 27) (S := fun w' => w'.cell? ⟨gb185, 0, none⟩ = some (.int .i64 ((Qs t175 (rd l1 x11_1)).f0)) ∧ w'.cell? ⟨gb185, 1, none⟩ = some (.int .i64 ((Qs t175 (rd l1 x11_1)).f1))) (ds := []) #[false, false, false, false, false, false, false, false, false, false, false, false, false, false, false, false, false, false, false, false, false, false, false, false, false, false, false] (by kernel_rfl) rfl rfl ⟨(Qe BK185.out 0).trans rfl, (Qe BK185.out 1).trans rfl⟩ (fun hHeld => ?_); refine with_tabW Ql.tab10 Ql.bits10 (fun HT_ HW_ => ?_)
              generalize w31.drew = w32 at HO_10 HO_179001 BK173 BK178 BK185 HB hHeld ⊢
              refine QL (i := 0) (N := some 48) (v := ?_) (a' := ?_) #[true, false, false, false, false, false, false, false, false, false, false, false, false, false, false, false, false, false, false, false, false, false, false, false, false, false, false] rfl rfl (QD HT_.out (by kernel_rfl)) (fun _ _ _ h => h) (Or.inl ⟨by rfl, ?_⟩) ?_ ?_
              rotate_left
              ·intro w'
               go_simp
               with_reducible rfl
              rotate_left
              ·simp only [Act.put, List.setIfInBounds_toArray, List.set_cons_zero, List.set_cons_succ, Qt, Qu]
               rfl
              refine QL (i := 1) (N := some 49) (v := ?_) (a' := ?_) #[true, true, false, false, false, false, false, false, false, false, false, false, false, false, false, false, false, false, false, false, false, false, false, false, false, false, false] rfl rfl (QD HT_.out (by kernel_rfl)) (fun _ _ _ h => h) (Or.inl ⟨by rfl, ?_⟩) ?_ ?_
              rotate_left
              ·intro w'
               go_simp
               with_reducible rfl
              rotate_left
              ·simp only [Act.put, List.setIfInBounds_toArray, List.set_cons_zero, List.set_cons_succ, Qt, Qu]
               rfl
              refine QL (i := 2) (N := some 50) (v := ?_) (a' := ?_) #[true, true, true, false, false, false, false, false, false, false, false, false, false, false, false, false, false, false, false, false, false, false, false, false, false, false, false] rfl rfl (QD HT_.out (by kernel_rfl)) (fun _ _ _ h => h) (Or.inl ⟨by rfl, ?_⟩) ?_ ?_
              rotate_left
              ·intro w'
               go_simp
               with_reducible rfl
              rotate_left
              ·simp only [Act.put, List.setIfInBounds_toArray, List.set_cons_zero, List.set_cons_succ, Qt, Qu]
               rfl
              refine QL (i := 3) (N := some 51) (v := ?_) (a' := ?_) #[true, true, true, true, false, false, false, false, false, false, false, false, false, false, false, false, false, false, false, false, false, false, false, false, false, false, false] rfl rfl (QD HT_.out (by kernel_rfl)) (fun _ _ _ h => h) (Or.inl ⟨by rfl, ?_⟩) ?_ ?_
              rotate_left
              ·intro w'
               go_simp
               with_reducible rfl
              rotate_left
              ·simp only [Act.put, List.setIfInBounds_toArray, List.set_cons_zero, List.set_cons_succ, Qt, Qu]
               rfl
              refine QL (i := 5) (N := some 53) (v := ?_) (a' := ?_) #[true, true, true, true, false, true, false, false, false, false, false, false, false, false, false, false, false, false, false, false, false, false, false, false, false, false, false] rfl rfl (QD HT_.out (by kernel_rfl)) (fun _ _ _ h => h) (Or.inl ⟨by rfl, ?_⟩) ?_ ?_
              rotate_left
              ·intro w'
               go_simp
               with_reducible rfl
              rotate_left
              ·simp only [Act.put, List.setIfInBounds_toArray, List.set_cons_zero, List.set_cons_succ, Qt, Qu]
               rfl
              refine take_ (i := 4) (N := some 52) (v := ?_) (a' := ?_) #[true, true, true, true, true, true, false, false, false, false, false, false, false, false, false, false, false, false, false, false, false, false, false, false, false, false, false] rfl rfl (Q8 HT_.out HW_.out (by kernel_rfl)) (fun _ _ _ h => h) (Or.inl ⟨by rfl, ?_⟩) hHeld ?_ ?_
              rotate_left
              ·rintro w' ⟨s0, s1⟩
               go_simp
               with_reducible rfl
              rotate_left
              ·simp only [Act.put, List.setIfInBounds_toArray, List.set_cons_zero, List.set_cons_succ, Qt, Qu]
               rfl
              refine QL (i := 6) (N := some 54) (v := ?_) (a' := ?_) #[true, true, true, true, true, true, true, false, false, false, false, false, false, false, false, false, false, false, false, false, false, false, false, false, false, false, false] rfl rfl (QD HT_.out (by kernel_rfl)) (fun _ _ _ h => h) (Or.inl ⟨by rfl, ?_⟩) ?_ ?_
              rotate_left
              ·intro w'
               go_simp
               with_reducible rfl
              rotate_left
              ·simp only [Act.put, List.setIfInBounds_toArray, List.set_cons_zero, List.set_cons_succ, Qt, Qu]
               rfl
              refine QL (i := 7) (N := some 55) (v := ?_) (a' := ?_) #[true, true, true, true, true, true, true, true, false, false, false, false, false, false, false, false, false, false, false, false, false, false, false, false, false, false, false] rfl rfl (QD HT_.out (by kernel_rfl)) (fun _ _ _ h => h) (Or.inl ⟨by rfl, ?_⟩) ?_ ?_
              rotate_left
              ·intro w'
               go_simp
               with_reducible rfl
              rotate_left
              ·simp only [Act.put, List.setIfInBounds_toArray, List.set_cons_zero, List.set_cons_succ, Qt, Qu]
               rfl
              refine QL (i := 8) (N := some 56) (v := ?_) (a' := ?_) #[true, true, true, true, true, true, true, true, true, false, false, false, false, false, false, false, false, false, false, false, false, false, false, false, false, false, false] rfl rfl (QD HT_.out (by kernel_rfl)) (fun _ _ _ h => h) (Or.inl ⟨by rfl, ?_⟩) ?_ ?_
              rotate_left
              ·intro w'
               go_simp
               with_reducible rfl
              rotate_left
              ·simp only [Act.put, List.setIfInBounds_toArray, List.set_cons_zero, List.set_cons_succ, Qt, Qu]
               rfl
              refine QL (i := 9) (N := some 57) (v := undef) (a' := ?_) #[true, true, true, true, true, true, true, true, true, true, false, false, false, false, false, false, false, false, false, false, false, false, false, false, false, false, false] rfl rfl (QD HT_.out (by kernel_rfl)) (fun _ _ _ h => h) (Or.inr ⟨by rfl, rfl⟩) ?_ ?_
              rotate_left
              ·simp only [Act.put, List.setIfInBounds_toArray, List.set_cons_zero, List.set_cons_succ, Qt, Qu]
               rfl
              refine QL (i := 10) (N := some 58) (v := undef) (a' := ?_) #[true, true, true, true, true, true, true, true, true, true, true, false, false, false, false, false, false, false, false, false, false, false, false, false, false, false, false] rfl rfl (QD HT_.out (by kernel_rfl)) (fun _ _ _ h => h) (Or.inr ⟨by rfl, rfl⟩) ?_ ?_
              rotate_left
              ·simp only [Act.put, List.setIfInBounds_toArray, List.set_cons_zero, List.set_cons_succ, Qt, Qu]
               rfl
              refine QL (i := 11) (N := some 59) (v := undef) (a' := ?_) #[true, true, true, true, true, true, true, true, true, true, true, true, false, false, false, false, false, false, false, false, false, false, false, false, false, false, false] rfl rfl (QD HT_.out (by kernel_rfl)) (fun _ _ _ h => h) (Or.inr ⟨by rfl, rfl⟩) ?_ ?_
              rotate_left
              ·simp only [Act.put, List.setIfInBounds_toArray, List.set_cons_zero, List.set_cons_succ, Qt, Qu]
               rfl
              refine QL (i := 12) (N := some 60) (v := undef) (a' := ?_) #[true, true, true, true, true, true, true, true, true, true, true, true, true, false, false, false, false, false, false, false, false, false, false, false, false, false, false] rfl rfl (QD HT_.out (by kernel_rfl)) (fun _ _ _ h => h) (Or.inr ⟨by rfl, rfl⟩) ?_ ?_
              rotate_left
              ·simp only [Act.put, List.setIfInBounds_toArray, List.set_cons_zero, List.set_cons_succ, Qt, Qu]
               rfl
              refine QL (i := 13) (N := some 61) (v := undef) (a' := ?_) #[true, true, true, true, true, true, true, true, true, true, true, true, true, true, false, false, false, false, false, false, false, false, false, false, false, false, false] rfl rfl (QD HT_.out (by kernel_rfl)) (fun _ _ _ h => h) (Or.inr ⟨by rfl, rfl⟩) ?_ ?_
              rotate_left
              ·simp only [Act.put, List.setIfInBounds_toArray, List.set_cons_zero, List.set_cons_succ, Qt, Qu]
               rfl
              refine QL (i := 14) (N := some 62) (v := undef) (a' := ?_) #[true, true, true, true, true, true, true, true, true, true, true, true, true, true, true, false, false, false, false, false, false, false, false, false, false, false, false] rfl rfl (QD HT_.out (by kernel_rfl)) (fun _ _ _ h => h) (Or.inr ⟨by rfl, rfl⟩) ?_ ?_
              rotate_left
              ·simp only [Act.put, List.setIfInBounds_toArray, List.set_cons_zero, List.set_cons_succ, Qt, Qu]
               rfl
              refine QL (i := 15) (N := some 63) (v := undef) (a' := ?_) #[true, true, true, true, true, true, true, true, true, true, true, true, true, true, true, true, false, false, false, false, false, false, false, false, false, false, false] rfl rfl (QD HT_.out (by kernel_rfl)) (fun _ _ _ h => h) (Or.inr ⟨by rfl, rfl⟩) ?_ ?_
              rotate_left
              ·simp only [Act.put, List.setIfInBounds_toArray, List.set_cons_zero, List.set_cons_succ, Qt, Qu]
               rfl
              refine QL (i := 16) (N := some 64) (v := undef) (a' := ?_) #[true, true, true, true, true, true, true, true, true, true, true, true, true, true, true, true, true, false, false, false, false, false, false, false, false, false, false] rfl rfl (QD HT_.out (by kernel_rfl)) (fun _ _ _ h => h) (Or.inr ⟨by rfl, rfl⟩) ?_ ?_
              rotate_left
              ·simp only [Act.put, List.setIfInBounds_toArray, List.set_cons_zero, List.set_cons_succ, Qt, Qu]
               rfl
              refine QL (i := 17) (N := some 65) (v := undef) (a' := ?_) #[true, true, true, true, true, true, true, true, true, true, true, true, true, true, true, true, true, true, false, false, false, false, false, false, false, false, false] rfl rfl (QD HT_.out (by kernel_rfl)) (fun _ _ _ h => h) (Or.inr ⟨by rfl, rfl⟩) ?_ ?_
              rotate_left
              ·simp only [Act.put, List.setIfInBounds_toArray, List.set_cons_zero, List.set_cons_succ, Qt, Qu]
               rfl
              refine QL (i := 18) (N := some 66) (v := undef) (a' := ?_) #[true, true, true, true, true, true, true, true, true, true, true, true, true, true, true, true, true, true, true, false, false, false, false, false, false, false, false] rfl rfl (QD HT_.out (by kernel_rfl)) (fun _ _ _ h => h) (Or.inr ⟨by rfl, rfl⟩) ?_ ?_
              rotate_left
              ·simp only [Act.put, List.setIfInBounds_toArray, List.set_cons_zero, List.set_cons_succ, Qt, Qu]
               rfl
              refine QL (i := 19) (N := some 67) (v := undef) (a' := ?_) #[true, true, true, true, true, true, true, true, true, true, true, true, true, true, true, true, true, true, true, true, false, false, false, false, false, false, false] rfl rfl (QD HT_.out (by kernel_rfl)) (fun _ _ _ h => h) (Or.inr ⟨by rfl, rfl⟩) ?_ ?_
              rotate_left
              ·simp only [Act.put, List.setIfInBounds_toArray, List.set_cons_zero, List.set_cons_succ, Qt, Qu]
               rfl
              refine QL (i := 20) (N := some 68) (v := undef) (a' := ?_) #[true, true, true, true, true, true, true, true, true, true, true, true, true, true, true, true, true, true, true, true, true, false, false, false, false, false, false] rfl rfl (QD HT_.out (by kernel_rfl)) (fun _ _ _ h => h) (Or.inr ⟨by rfl, rfl⟩) ?_ ?_
              rotate_left
              ·simp only [Act.put, List.setIfInBounds_toArray, List.set_cons_zero, List.set_cons_succ, Qt, Qu]
               rfl
              refine QL (i := 21) (N := some 69) (v := undef) (a' := ?_) #[true, true, true, true, true, true, true, true, true, true, true, true, true, true, true, true, true, true, true, true, true, true, false, false, false, false, false] rfl rfl (QD HT_.out (by kernel_rfl)) (fun _ _ _ h => h) (Or.inr ⟨by rfl, rfl⟩) ?_ ?_
              rotate_left
              ·simp only [Act.put, List.setIfInBounds_toArray, List.set_cons_zero, List.set_cons_succ, Qt, Qu]
               rfl
              refine QL (i := 22) (N := some 70) (v := undef) (a' := ?_) #[true, true, true, true, true, true, true, true, true, true, true, true, true, true, true, true, true, true, true, true, true, true, true, false, false, false, false] rfl rfl (QD HT_.out (by kernel_rfl)) (fun _ _ _ h => h) (Or.inr ⟨by rfl, rfl⟩) ?_ ?_
              rotate_left
              ·simp only [Act.put, List.setIfInBounds_toArray, List.set_cons_zero, List.set_cons_succ, Qt, Qu]
               rfl
              refine QL (i := 23) (N := some 71) (v := undef) (a' := ?_) #[true, true, true, true, true, true, true, true, true, true, true, true, true, true, true, true, true, true, true, true, true, true, true, true, false, false, false] rfl rfl (QD HT_.out (by kernel_rfl)) (fun _ _ _ h => h) (Or.inr ⟨by rfl, rfl⟩) ?_ ?_
              rotate_left
              ·simp only [Act.put, List.setIfInBounds_toArray, List.set_cons_zero, List.set_cons_succ, Qt, Qu]
               rfl
              refine QL (i := 24) (N := some 72) (v := undef) (a' := ?_) #[true, true, true, true, true, true, true, true, true, true, true, true, true, true, true, true, true, true, true, true, true, true, true, true, true, false, false] rfl rfl (QD HT_.out (by kernel_rfl)) (fun _ _ _ h => h) (Or.inr ⟨by rfl, rfl⟩) ?_ ?_
              rotate_left
              ·simp only [Act.put, List.setIfInBounds_toArray, List.set_cons_zero, List.set_cons_succ, Qt, Qu]
               rfl
              refine QL (i := 25) (N := some 73) (v := undef) (a' := ?_) #[true, true, true, true, true, true, true, true, true, true, true, true, true, true, true, true, true, true, true, true, true, true, true, true, true, true, false] rfl rfl (QD HT_.out (by kernel_rfl)) (fun _ _ _ h => h) (Or.inr ⟨by rfl, rfl⟩) ?_ ?_
              rotate_left
              ·simp only [Act.put, List.setIfInBounds_toArray, List.set_cons_zero, List.set_cons_succ, Qt, Qu]
               rfl
              refine QL (i := 26) (N := some 74) (v := ?_) (a' := ?_) #[true, true, true, true, true, true, true, true, true, true, true, true, true, true, true, true, true, true, true, true, true, true, true, true, true, true, true] rfl rfl (QD HT_.out (by kernel_rfl)) (fun _ _ _ h => h) (Or.inl ⟨by rfl, ?_⟩) ?_ ?_
              rotate_left
              ·intro w'
               go_simp
               with_reducible rfl
              rotate_left
              ·simp only [Act.put, List.setIfInBounds_toArray, List.set_cons_zero, List.set_cons_succ, Qt, Qu]
               rfl
              refine done_ (done_of HT_.out (by kernel_rfl)) ?_
              try go_wp2
              go_meet
              case rel => exact ⟨_, (true), (by first | rfl | (simp; done) | (simp [*]; done)), H', ⟨by have := HK1.out; have := HJ13.out; first | omega | exact Nat.le_refl _⟩, ⟨by (with_reducible repeat (first | apply Kd.QP | apply Kd.QQ | apply Kd.QT)); exact HO_10.out⟩, ⟨by (with_reducible repeat (first | apply Kd.QP | apply Kd.QQ | apply Kd.QT)); exact HO_179001.out⟩, ⟨by (with_reducible repeat (first | refine Qd ?_ _ | refine Qg ?_ | refine Qb ?_ _)); exact BK173.out⟩, ⟨by (with_reducible repeat (first | refine Qd ?_ _ | refine Qg ?_ | refine Qb ?_ _)); exact BK178.out⟩, ⟨by (with_reducible repeat (first | refine Qd ?_ _ | refine Qg ?_ | refine Qb ?_ _)); exact BK185.out⟩, ⟨by repeat (first | (with_reducible first | exact HB.out | apply Qi | apply Qa | apply Qj | refine Qk ?_ GE173.out | refine Qk ?_ GE178.out | refine Qk ?_ GE185.out) | exact HB.out)⟩⟩
             ·rw [if_neg c30] at H
              have c30b0 : decide (((Qs t175 (rd l1 x11_1)).f0) < (l0_2.length : Int)) = false := decide_eq_false c30
              clear c30
              by_cases c33 : x11_1 > 0
              ·rw [if_pos c33] at H
               have c33b0 : decide (0 < x11_1) = true := decide_eq_true c33
               clear c33
               obtain ⟨ji34, hji34⟩ : ∃ j_ : Int, (wrap64 (x11_1 - 1)) = j_ := ⟨_, rfl⟩
               replace H : (if 0 ≤ (ji34) then (if (ji34) < (l1.length : Int) then (if 0 ≤ (rd l1 (ji34)) then (if (rd l1 (ji34)) < (t175.length : Int) then (Ql.j2 kj13 l1 (l0_2.length : Int) x10_1 x11_1 (((Qs t175 (rd l1 x11_1)).f0) != ((Qs t175 (rd l1 (ji34))).f1)) t174 t175 ((Qs t175 (rd l1 x11_1)).f0) ((Qs t175 (rd l1 x11_1)).f1)) else (none)) else (none)) else (none)) else (none)) = some (r1, r2) := by first | (rw [hji34] at H; exact H) | (simp only [hji34] at H ⊢; exact H)
               have hji34w : (IntKind.i64.wrap (x11_1 - 1)) = ji34 := (Qt _).trans hji34
               by_cases c35 : 0 ≤ (ji34)
               ·rw [if_pos c35] at H
                have c35b0 : decide (0 ≤ (ji34)) = true := decide_eq_true c35
                clear c35
                by_cases c36 : (ji34) < (l1.length : Int)
                ·rw [if_pos c36] at H
                 have c36b0 : decide ((ji34) < (l1.length : Int)) = true := decide_eq_true c36
                 clear c36
                 by_cases c37 : 0 ≤ (rd l1 (ji34))
                 ·rw [if_pos c37] at H
                  have c37b0 : decide (0 ≤ (rd l1 (ji34))) = true := decide_eq_true c37
                  clear c37
                  by_cases c38 : (rd l1 (ji34)) < (t175.length : Int)
                  ·rw [if_pos c38] at H
                   have c38b0 : decide ((rd l1 (ji34)) < (t175.length : Int)) = true := decide_eq_true c38
                   clear c38
                   have H' := Qf.mk H
                   clear H
                   try go_wp2
                   have n0_ : Qf (Kd.R (Kd.int .i64) 3 ((w26.setCell ⟨gb185, 0, none⟩ (.int .i64 ((Qs t175 (rd l1 x11_1)).f0))).setCell ⟨gb185, 1, none⟩ (.int .i64 ((Qs t175 (rd l1 x11_1)).f1))) w.heap.size (fun _ => True) u10 x10_1) := ⟨by (with_reducible repeat (first | apply Kd.QP | apply Kd.QQ | apply Kd.QT)); exact Kd.Q9 (Kd.R_far (p := ⟨gb185, 1, none⟩) (Kd.R_far (p := ⟨gb185, 0, none⟩) (Kd.R_types HO_10.out BK185.out (by decide)) (fun _ hk => hk.2) (.int .i64 ((Qs t175 (rd l1 x11_1)).f0))) (fun _ hk => hk.2) (.int .i64 ((Qs t175 (rd l1 x11_1)).f1))) (fun _ hk => trivial)⟩
                   have n1_ : Qf (Kd.R k92 92 ((w26.setCell ⟨gb185, 0, none⟩ (.int .i64 ((Qs t175 (rd l1 x11_1)).f0))).setCell ⟨gb185, 1, none⟩ (.int .i64 ((Qs t175 (rd l1 x11_1)).f1))) w.heap.size (fun k_ => k_ ≠ gb185) (.slice (some ad184) t175.length co11) t175) := ⟨by (with_reducible repeat (first | apply Kd.QP | apply Kd.QQ | apply Kd.QT)); exact Kd.Q9 (Kd.R_far (p := ⟨gb185, 1, none⟩) (Kd.R_far (p := ⟨gb185, 0, none⟩) (Kd.Q9 HO_179001.out (fun k_ hk => (⟨hk, hk.2⟩ : _ ∧ k_ ≠ gb185))) (fun _ hk => hk.2) (.int .i64 ((Qs t175 (rd l1 x11_1)).f0))) (fun _ hk => hk.2) (.int .i64 ((Qs t175 (rd l1 x11_1)).f1))) (fun _ hk => hk.1.2)⟩
                   have n2_ : Qf (((w26.setCell ⟨gb185, 0, none⟩ (.int .i64 ((Qs t175 (rd l1 x11_1)).f0))).setCell ⟨gb185, 1, none⟩ (.int .i64 ((Qs t175 (rd l1 x11_1)).f1))).heap[gb173]? = some (.cells #[.slice A0_0 l0_0.length c0_0, .slice A0_1 l0_1.length c0_1, .slice A0_2 l0_2.length c0_2] 37 (0, 0))) := ⟨by (with_reducible repeat (first | refine Qd ?_ _ | refine Qg ?_ | refine Qb ?_ _)); refine Qv ?_ NB173_185.out _; (with_reducible repeat (first | refine Qd ?_ _ | refine Qg ?_ | refine Qb ?_ _)); refine Qv ?_ NB173_185.out _; (with_reducible repeat (first | refine Qd ?_ _ | refine Qg ?_ | refine Qb ?_ _)); exact BK173.out⟩
                   have n3_ : Qf (((w26.setCell ⟨gb185, 0, none⟩ (.int .i64 ((Qs t175 (rd l1 x11_1)).f0))).setCell ⟨gb185, 1, none⟩ (.int .i64 ((Qs t175 (rd l1 x11_1)).f1))).heap[gb178]? = some (.cells #[.int .i64 t174, .slice (some ad184) t175.length co11] 51 (0, 0))) := ⟨by (with_reducible repeat (first | refine Qd ?_ _ | refine Qg ?_ | refine Qb ?_ _)); refine Qv ?_ NB178_185.out _; (with_reducible repeat (first | refine Qd ?_ _ | refine Qg ?_ | refine Qb ?_ _)); refine Qv ?_ NB178_185.out _; (with_reducible repeat (first | refine Qd ?_ _ | refine Qg ?_ | refine Qb ?_ _)); exact BK178.out⟩
                   have n4_ : Qf (((w26.setCell ⟨gb185, 0, none⟩ (.int .i64 ((Qs t175 (rd l1 x11_1)).f0))).setCell ⟨gb185, 1, none⟩ (.int .i64 ((Qs t175 (rd l1 x11_1)).f1))).heap[gb185]? = some (.cells #[.int .i64 ((Qs t175 (rd l1 x11_1)).f0), .int .i64 ((Qs t175 (rd l1 x11_1)).f1)] 92 (0, 0))) := ⟨by (with_reducible repeat (first | refine Qd ?_ _ | refine Qg ?_ | refine Qb ?_ _)); refine Qy (cs := #[.int .i64 ((Qs t175 (rd l1 x11_1)).f0), .int .i64 0]) ?_ 1 _ rfl; (with_reducible repeat (first | refine Qd ?_ _ | refine Qg ?_ | refine Qb ?_ _)); refine Qy (cs := #[.int .i64 0, .int .i64 0]) ?_ 0 _ rfl; (with_reducible repeat (first | refine Qd ?_ _ | refine Qg ?_ | refine Qb ?_ _)); exact BK185.out⟩
                   have n5_ : Qf (Below w.heap.size w ((w26.setCell ⟨gb185, 0, none⟩ (.int .i64 ((Qs t175 (rd l1 x11_1)).f0))).setCell ⟨gb185, 1, none⟩ (.int .i64 ((Qs t175 (rd l1 x11_1)).f1)))) := ⟨by repeat (first | (with_reducible first | exact HB.out | apply Qi | apply Qa | apply Qj | refine Qk ?_ GE173.out | refine Qk ?_ GE178.out | refine Qk ?_ GE185.out) | exact HB.out)⟩
                   (try clear HO_10)
                   (try clear HO_179001)
                   (try clear BK173)
                   (try clear BK178)
                   (try clear BK185)
                   (try clear HB)
                   generalize ((w26.setCell ⟨gb185, 0, none⟩ (.int .i64 ((Qs t175 (rd l1 x11_1)).f0))).setCell ⟨gb185, 1, none⟩ (.int .i64 ((Qs t175 (rd l1 x11_1)).f1))) = w39 at n0_ n1_ n2_ n3_ n4_ n5_ ⊢
                   have HO_10 := n0_
                   have HO_179001 := n1_
                   have BK173 := n2_
                   have BK178 := n3_
                   have BK185 := n4_
                   have HB := n5_
                   clear n0_ n1_ n2_ n3_ n4_ n5_
                   have n0_ := Qf.mk (Kd.QT HO_10.out)
                   have n1_ := Qf.mk (Kd.QT HO_179001.out)
                   have n2_ := Qf.mk (Qg BK173.out)
                   have n3_ := Qf.mk (Qg BK178.out)
                   have n4_ := Qf.mk (Qg BK185.out)
                   have n5_ := Qf.mk (Qj HB.out)
                   clear HO_10
                   clear HO_179001
                   clear BK173
                   clear BK178
                   clear BK185
                   clear HB
                   have HO_10 := n0_
                   have HO_179001 := n1_
                   have BK173 := n2_
                   have BK178 := n3_
                   have BK185 := n4_
                   have HB := n5_
                   clear n0_ n1_ n2_ n3_ n4_ n5_
                   have p186 : 0 ≤ ((ji34) : Int) := of_decide_eq_true (by first | (with_reducible assumption) | assumption)
                   have q186 : (ji34) < (l1.length : Int) := of_decide_eq_true (by first | (with_reducible assumption) | assumption)
                   obtain ⟨ad186, e186, hx186_0⟩ := Kd.at_int HR1.out (ji34) p186 q186
                   have hw186_0 := hx186_0
                   obtain rfl : ad183 = ad186 := (by injection e186)
                   replace hx186_0 := (HB.out.cell (World.block_lt_of_cell? w _ hx186_0)).trans hx186_0
                   replace p186 := eq_true p186
                   replace q186 := eq_true q186
                   have p187 : 0 ≤ ((rd l1 (ji34)) : Int) := of_decide_eq_true (by first | (with_reducible assumption) | assumption)
                   have q187 : (rd l1 (ji34)) < (t175.length : Int) := of_decide_eq_true (by first | (with_reducible assumption) | assumption)
                   obtain ⟨ad187, e187, hx187_0, hx187_1⟩ := at_T92 (Kd.R_reads' HO_179001.out).2.2 (rd l1 (ji34)) p187 q187
                   obtain rfl : ad184 = ad187 := (by injection e187)
                   replace p187 := eq_true p187
                   replace q187 := eq_true q187
                   refine start_ (n := 27) (S := fun w' => w'.cell? ⟨gb185, 0, none⟩ = some (.int .i64 ((Qs t175 (rd l1 x11_1)).f0)) ∧ w'.cell? ⟨gb185, 1, none⟩ = some (.int .i64 ((Qs t175 (rd l1 x11_1)).f1)) ∧ w'.cell? ⟨gb178, 0, none⟩ = some (.int .i64 t174) ∧ w'.cell? ⟨gb178, 1, none⟩ = some (.slice (some ad184) t175.length co11) ∧ w'.cell? (ad183.add ((ji34)).toNat) = some (.int .i64 (rd l1 (ji34))) ∧ w'.cell? (ad184.add (((rd l1 (ji34))).toNat * 2)) = some (.int .i64 ((Qs t175 (rd l1 (ji34))).f0)) ∧ w'.cell? ⟨(ad184.add (((rd l1 (ji34))).toNat * 2)).block, (ad184.add (((rd l1 (ji34))).toNat * 2)).off + 1, none⟩ = some (.int .i64 ((Qs t175 (rd l1 (ji34))).f1))) (ds := []) #[false, false, false, false, false, false, false, false, false, false, false, false, false, false, false, false, false, false, false, false, false, false, false, false, false, false, false] (by kernel_rfl) rfl rfl ⟨(Qe BK185.out 0).trans rfl, (Qe BK185.out 1).trans rfl, (Qe BK178.out 0).trans rfl, (Qe BK178.out 1).trans rfl, ((HB.out.cell (World.block_lt_of_cell? w _ hw186_0)).trans hw186_0), hx187_0, hx187_1⟩ (fun hHeld => ?_); refine with_tabW Ql.tab10 Ql.bits10 (fun HT_ HW_ => ?_)
                   generalize w39.drew = w40 at HO_10 HO_179001 BK173 BK178 BK185 HB hx186_0 hx187_0 hx187_1 hHeld ⊢
                   refine QL (i := 0) (N := some 48) (v := ?_) (a' := ?_) #[true, false, false, false, false, false, false, false, false, false, false, false, false, false, false, false, false, false, false, false, false, false, false, false, false, false, false] rfl rfl (QD HT_.out (by kernel_rfl)) (fun _ _ _ h => h) (Or.inl ⟨by rfl, ?_⟩) ?_ ?_
                   rotate_left
                   ·intro w'
                    go_simp
                    with_reducible rfl
                   rotate_left
                   ·simp only [Act.put, List.setIfInBounds_toArray, List.set_cons_zero, List.set_cons_succ, Qt, Qu]
                    rfl
                   refine QL (i := 1) (N := some 49) (v := ?_) (a' := ?_) #[true, true, false, false, false, false, false, false, false, false, false, false, false, false, false, false, false, false, false, false, false, false, false, false, false, false, false] rfl rfl (QD HT_.out (by kernel_rfl)) (fun _ _ _ h => h) (Or.inl ⟨by rfl, ?_⟩) ?_ ?_
                   rotate_left
                   ·intro w'
                    go_simp
                    with_reducible rfl
                   rotate_left
                   ·simp only [Act.put, List.setIfInBounds_toArray, List.set_cons_zero, List.set_cons_succ, Qt, Qu]
                    rfl
                   refine QL (i := 2) (N := some 50) (v := ?_) (a' := ?_) #[true, true, true, false, false, false, false, false, false, false, false, false, false, false, false, false, false, false, false, false, false, false, false, false, false, false, false] rfl rfl (QD HT_.out (by kernel_rfl)) (fun _ _ _ h => h) (Or.inl ⟨by rfl, ?_⟩) ?_ ?_
                   rotate_left
                   ·intro w'
                    go_simp
                    with_reducible rfl
                   rotate_left
                   ·simp only [Act.put, List.setIfInBounds_toArray, List.set_cons_zero, List.set_cons_succ, Qt, Qu]
                    rfl
                   refine QL (i := 3) (N := some 51) (v := ?_) (a' := ?_) #[true, true, true, true, false, false, false, false, false, false, false, false, false, false, false, false, false, false, false, false, false, false, false, false, false, false, false] rfl rfl (QD HT_.out (by kernel_rfl)) (fun _ _ _ h => h) (Or.inl ⟨by rfl, ?_⟩) ?_ ?_
                   rotate_left
                   ·intro w'
                    go_simp
                    with_reducible rfl
                   rotate_left
                   ·simp only [Act.put, List.setIfInBounds_toArray, List.set_cons_zero, List.set_cons_succ, Qt, Qu]
                    rfl
                   refine QL (i := 5) (N := some 53) (v := ?_) (a' := ?_) #[true, true, true, true, false, true, false, false, false, false, false, false, false, false, false, false, false, false, false, false, false, false, false, false, false, false, false] rfl rfl (QD HT_.out (by kernel_rfl)) (fun _ _ _ h => h) (Or.inl ⟨by rfl, ?_⟩) ?_ ?_
                   rotate_left
                   ·intro w'
                    go_simp
                    with_reducible rfl
                   rotate_left
                   ·simp only [Act.put, List.setIfInBounds_toArray, List.set_cons_zero, List.set_cons_succ, Qt, Qu]
                    rfl
                   refine take_ (i := 4) (N := some 52) (v := ?_) (a' := ?_) #[true, true, true, true, true, true, false, false, false, false, false, false, false, false, false, false, false, false, false, false, false, false, false, false, false, false, false] rfl rfl (Q8 HT_.out HW_.out (by kernel_rfl)) (fun _ _ _ h => h) (Or.inl ⟨by rfl, ?_⟩) hHeld ?_ ?_
                   rotate_left
                   ·rintro w' ⟨s0, s1, s2, s3, s4, s5, s6⟩
                    go_simp
                    with_reducible rfl
                   rotate_left
                   ·simp only [Act.put, List.setIfInBounds_toArray, List.set_cons_zero, List.set_cons_succ, Qt, Qu]
                    rfl
                   refine QL (i := 6) (N := some 54) (v := ?_) (a' := ?_) #[true, true, true, true, true, true, true, false, false, false, false, false, false, false, false, false, false, false, false, false, false, false, false, false, false, false, false] rfl rfl (QD HT_.out (by kernel_rfl)) (fun _ _ _ h => h) (Or.inl ⟨by rfl, ?_⟩) ?_ ?_
                   rotate_left
                   ·intro w'
                    go_simp
                    with_reducible rfl
                   rotate_left
                   ·simp only [Act.put, List.setIfInBounds_toArray, List.set_cons_zero, List.set_cons_succ, Qt, Qu]
                    rfl
                   refine QL (i := 7) (N := some 55) (v := ?_) (a' := ?_) #[true, true, true, true, true, true, true, true, false, false, false, false, false, false, false, false, false, false, false, false, false, false, false, false, false, false, false] rfl rfl (QD HT_.out (by kernel_rfl)) (fun _ _ _ h => h) (Or.inl ⟨by rfl, ?_⟩) ?_ ?_
                   rotate_left
                   ·intro w'
                    go_simp
                    with_reducible rfl
                   rotate_left
                   ·simp only [Act.put, List.setIfInBounds_toArray, List.set_cons_zero, List.set_cons_succ, Qt, Qu]
                    rfl
                   refine QL (i := 8) (N := some 56) (v := ?_) (a' := ?_) #[true, true, true, true, true, true, true, true, true, false, false, false, false, false, false, false, false, false, false, false, false, false, false, false, false, false, false] rfl rfl (QD HT_.out (by kernel_rfl)) (fun _ _ _ h => h) (Or.inl ⟨by rfl, ?_⟩) ?_ ?_
                   rotate_left
                   ·intro w'
                    go_simp
                    with_reducible rfl
                   rotate_left
                   ·simp only [Act.put, List.setIfInBounds_toArray, List.set_cons_zero, List.set_cons_succ, Qt, Qu]
                    rfl
                   refine QL (i := 9) (N := some 57) (v := ?_) (a' := ?_) #[true, true, true, true, true, true, true, true, true, true, false, false, false, false, false, false, false, false, false, false, false, false, false, false, false, false, false] rfl rfl (QD HT_.out (by kernel_rfl)) (fun _ _ _ h => h) (Or.inl ⟨by rfl, ?_⟩) ?_ ?_
                   rotate_left
                   ·intro w'
                    go_simp
                    with_reducible rfl
                   rotate_left
                   ·simp only [Act.put, List.setIfInBounds_toArray, List.set_cons_zero, List.set_cons_succ, Qt, Qu]
                    rfl
                   refine QL (i := 10) (N := some 58) (v := ?_) (a' := ?_) #[true, true, true, true, true, true, true, true, true, true, true, false, false, false, false, false, false, false, false, false, false, false, false, false, false, false, false] rfl rfl (QD HT_.out (by kernel_rfl)) (fun _ _ _ h => h) (Or.inl ⟨by rfl, ?_⟩) ?_ ?_
                   rotate_left
                   ·intro w'
                    go_simp
                    with_reducible rfl
                   rotate_left
                   ·simp only [Act.put, List.setIfInBounds_toArray, List.set_cons_zero, List.set_cons_succ, Qt, Qu]
                    rfl
                   refine QL (i := 11) (N := some 59) (v := ?_) (a' := ?_) #[true, true, true, true, true, true, true, true, true, true, true, true, false, false, false, false, false, false, false, false, false, false, false, false, false, false, false] rfl rfl (QD HT_.out (by kernel_rfl)) (fun _ _ _ h => h) (Or.inl ⟨by rfl, ?_⟩) ?_ ?_
                   rotate_left
                   ·intro w'
                    go_simp
                    with_reducible rfl
                   rotate_left
                   ·simp only [Act.put, List.setIfInBounds_toArray, List.set_cons_zero, List.set_cons_succ, Qt, Qu]
                    rfl
                   refine QL (i := 12) (N := some 60) (v := ?_) (a' := ?_) #[true, true, true, true, true, true, true, true, true, true, true, true, true, false, false, false, false, false, false, false, false, false, false, false, false, false, false] rfl rfl (QD HT_.out (by kernel_rfl)) (fun _ _ _ h => h) (Or.inl ⟨by rfl, ?_⟩) ?_ ?_
                   rotate_left
                   ·intro w'
                    go_simp
                    with_reducible rfl
                   rotate_left
                   ·simp only [Act.put, List.setIfInBounds_toArray, List.set_cons_zero, List.set_cons_succ, Qt, Qu]
                    rfl
                   refine QL (i := 14) (N := some 62) (v := ?_) (a' := ?_) #[true, true, true, true, true, true, true, true, true, true, true, true, true, false, true, false, false, false, false, false, false, false, false, false, false, false, false] rfl rfl (QD HT_.out (by kernel_rfl)) (fun _ _ _ h => h) (Or.inl ⟨by rfl, ?_⟩) ?_ ?_
                   rotate_left
                   ·intro w'
                    go_simp
                    with_reducible rfl
                   rotate_left
                   ·simp only [Act.put, List.setIfInBounds_toArray, List.set_cons_zero, List.set_cons_succ, Qt, Qu]
                    rfl
                   refine QL (i := 16) (N := some 64) (v := ?_) (a' := ?_) #[true, true, true, true, true, true, true, true, true, true, true, true, true, false, true, false, true, false, false, false, false, false, false, false, false, false, false] rfl rfl (QD HT_.out (by kernel_rfl)) (fun _ _ _ h => h) (Or.inl ⟨by rfl, ?_⟩) ?_ ?_
                   rotate_left
                   ·intro w'
                    go_simp
                    with_reducible rfl
                   rotate_left
                   ·simp only [Act.put, List.setIfInBounds_toArray, List.set_cons_zero, List.set_cons_succ, Qt, Qu]
                    rfl
                   refine QL (i := 17) (N := some 65) (v := ?_) (a' := ?_) #[true, true, true, true, true, true, true, true, true, true, true, true, true, false, true, false, true, true, false, false, false, false, false, false, false, false, false] rfl rfl (QD HT_.out (by kernel_rfl)) (fun _ _ _ h => h) (Or.inl ⟨by rfl, ?_⟩) ?_ ?_
                   rotate_left
                   ·intro w'
                    go_simp
                    with_reducible rfl
                   rotate_left
                   ·simp only [Act.put, List.setIfInBounds_toArray, List.set_cons_zero, List.set_cons_succ, Qt, Qu]
                    rfl
                   refine QL (i := 18) (N := some 66) (v := ?_) (a' := ?_) #[true, true, true, true, true, true, true, true, true, true, true, true, true, false, true, false, true, true, true, false, false, false, false, false, false, false, false] rfl rfl (QD HT_.out (by kernel_rfl)) (fun _ _ _ h => h) (Or.inl ⟨by rfl, ?_⟩) ?_ ?_
                   rotate_left
                   ·intro w'
                    go_simp
                    with_reducible rfl
                   rotate_left
                   ·simp only [Act.put, List.setIfInBounds_toArray, List.set_cons_zero, List.set_cons_succ, Qt, Qu]
                    rfl
                   refine QL (i := 19) (N := some 67) (v := ?_) (a' := ?_) #[true, true, true, true, true, true, true, true, true, true, true, true, true, false, true, false, true, true, true, true, false, false, false, false, false, false, false] rfl rfl (QD HT_.out (by kernel_rfl)) (fun _ _ _ h => h) (Or.inl ⟨by rfl, ?_⟩) ?_ ?_
                   rotate_left
                   ·intro w'
                    go_simp
                    with_reducible rfl
                   rotate_left
                   ·simp only [Act.put, List.setIfInBounds_toArray, List.set_cons_zero, List.set_cons_succ, Qt, Qu]
                    rfl
                   refine take_ (i := 13) (N := some 61) (v := ?_) (a' := ?_) #[true, true, true, true, true, true, true, true, true, true, true, true, true, true, true, false, true, true, true, true, false, false, false, false, false, false, false] rfl rfl (Q8 HT_.out HW_.out (by kernel_rfl)) (fun _ _ _ h => h) (Or.inl ⟨by rfl, ?_⟩) hHeld ?_ ?_
                   rotate_left
                   ·rintro w' ⟨s0, s1, s2, s3, s4, s5, s6⟩
                    go_simp
                    with_reducible rfl
                   rotate_left
                   ·simp only [Act.put, List.setIfInBounds_toArray, List.set_cons_zero, List.set_cons_succ, Qt, Qu]
                    rfl
                   refine take_ (i := 15) (N := some 63) (v := ?_) (a' := ?_) #[true, true, true, true, true, true, true, true, true, true, true, true, true, true, true, true, true, true, true, true, false, false, false, false, false, false, false] rfl rfl (Q8 HT_.out HW_.out (by kernel_rfl)) (fun _ _ _ h => h) (Or.inl ⟨by rfl, ?_⟩) hHeld ?_ ?_
                   rotate_left
                   ·rintro w' ⟨s0, s1, s2, s3, s4, s5, s6⟩
                    go_simp
                    with_reducible rfl
                   rotate_left
                   ·simp only [Act.put, List.setIfInBounds_toArray, List.set_cons_zero, List.set_cons_succ, Qt, Qu]
                    rfl
                   refine take_ (i := 20) (N := some 68) (v := ?_) (a' := ?_) #[true, true, true, true, true, true, true, true, true, true, true, true, true, true, true, true, true, true, true, true, true, false, false, false, false, false, false] rfl rfl (Q8 HT_.out HW_.out (by kernel_rfl)) (fun _ _ _ h => h) (Or.inl ⟨by rfl, ?_⟩) hHeld ?_ ?_
                   rotate_left
                   ·rintro w' ⟨s0, s1, s2, s3, s4, s5, s6⟩
                    go_simp
                    with_reducible rfl
                   rotate_left
                   ·simp only [Act.put, List.setIfInBounds_toArray, List.set_cons_zero, List.set_cons_succ, Qt, Qu]
                    rfl
                   refine QL (i := 21) (N := some 69) (v := ?_) (a' := ?_) #[true, true, true, true, true, true, true, true, true, true, true, true, true, true, true, true, true, true, true, true, true, true, false, false, false, false, false] rfl rfl (QD HT_.out (by kernel_rfl)) (fun _ _ _ h => h) (Or.inl ⟨by rfl, ?_⟩) ?_ ?_
                   rotate_left
                   ·intro w'
                    go_simp
                    with_reducible rfl
                   rotate_left
                   ·simp only [Act.put, List.setIfInBounds_toArray, List.set_cons_zero, List.set_cons_succ, Qt, Qu]
                    rfl
                   refine QL (i := 22) (N := some 70) (v := ?_) (a' := ?_) #[true, true, true, true, true, true, true, true, true, true, true, true, true, true, true, true, true, true, true, true, true, true, true, false, false, false, false] rfl rfl (QD HT_.out (by kernel_rfl)) (fun _ _ _ h => h) (Or.inl ⟨by rfl, ?_⟩) ?_ ?_
                   rotate_left
                   ·intro w'
                    go_simp
                    with_reducible rfl
                   rotate_left
                   ·simp only [Act.put, List.setIfInBounds_toArray, List.set_cons_zero, List.set_cons_succ, Qt, Qu]
                    rfl
                   refine take_ (i := 23) (N := some 71) (v := ?_) (a' := ?_) #[true, true, true, true, true, true, true, true, true, true, true, true, true, true, true, true, true, true, true, true, true, true, true, true, false, false, false] rfl rfl (Q8 HT_.out HW_.out (by kernel_rfl)) (fun _ _ _ h => h) (Or.inl ⟨by rfl, ?_⟩) hHeld ?_ ?_
                   rotate_left
                   ·rintro w' ⟨s0, s1, s2, s3, s4, s5, s6⟩
                    go_simp
                    with_reducible rfl
                   rotate_left
                   ·simp only [Act.put, List.setIfInBounds_toArray, List.set_cons_zero, List.set_cons_succ, Qt, Qu]
                    rfl
                   refine QL (i := 24) (N := some 72) (v := ?_) (a' := ?_) #[true, true, true, true, true, true, true, true, true, true, true, true, true, true, true, true, true, true, true, true, true, true, true, true, true, false, false] rfl rfl (QD HT_.out (by kernel_rfl)) (fun _ _ _ h => h) (Or.inl ⟨by rfl, ?_⟩) ?_ ?_
                   rotate_left
                   ·intro w'
                    go_simp
                    with_reducible rfl
                   rotate_left
                   ·simp only [Act.put, List.setIfInBounds_toArray, List.set_cons_zero, List.set_cons_succ, Qt, Qu]
                    rfl
                   refine QL (i := 25) (N := some 73) (v := ?_) (a' := ?_) #[true, true, true, true, true, true, true, true, true, true, true, true, true, true, true, true, true, true, true, true, true, true, true, true, true, true, false] rfl rfl (QD HT_.out (by kernel_rfl)) (fun _ _ _ h => h) (Or.inl ⟨by rfl, ?_⟩) ?_ ?_
                   rotate_left
                   ·intro w'
                    go_simp
                    with_reducible rfl
                   rotate_left
                   ·simp only [Act.put, List.setIfInBounds_toArray, List.set_cons_zero, List.set_cons_succ, Qt, Qu]
                    rfl
                   refine QL (i := 26) (N := some 74) (v := ?_) (a' := ?_) #[true, true, true, true, true, true, true, true, true, true, true, true, true, true, true, true, true, true, true, true, true, true, true, true, true, true, true] rfl rfl (QD HT_.out (by kernel_rfl)) (fun _ _ _ h => h) (Or.inl ⟨by rfl, ?_⟩) ?_ ?_
                   rotate_left
                   ·intro w'
                    go_simp
                    with_reducible rfl
                   rotate_left
                   ·simp only [Act.put, List.setIfInBounds_toArray, List.set_cons_zero, List.set_cons_succ, Qt, Qu]
                    rfl
                   refine done_ (done_of HT_.out (by kernel_rfl)) ?_
                   try go_wp2
                   go_meet
                   case rel => exact ⟨_, ((((Qs t175 (rd l1 x11_1)).f0) != ((Qs t175 (rd l1 (ji34))).f1))), (by first | rfl | (simp; done) | (simp only [← hji34] <;> (first | rfl | simp)) | (simp [*]; done)), H', ⟨by have := HK1.out; have := HJ13.out; first | omega | exact Nat.le_refl _⟩, ⟨by (with_reducible repeat (first | apply Kd.QP | apply Kd.QQ | apply Kd.QT)); exact HO_10.out⟩, ⟨by (with_reducible repeat (first | apply Kd.QP | apply Kd.QQ | apply Kd.QT)); exact HO_179001.out⟩, ⟨by (with_reducible repeat (first | refine Qd ?_ _ | refine Qg ?_ | refine Qb ?_ _)); exact BK173.out⟩, ⟨by (with_reducible repeat (first | refine Qd ?_ _ | refine Qg ?_ | refine Qb ?_ _)); exact BK178.out⟩, ⟨by (with_reducible repeat (first | refine Qd ?_ _ | refine Qg ?_ | refine Qb ?_ _)); exact BK185.out⟩, ⟨by repeat (first | (with_reducible first | exact HB.out | apply Qi | apply Qa | apply Qj | refine Qk ?_ GE173.out | refine Qk ?_ GE178.out | refine Qk ?_ GE185.out) | exact HB.out)⟩⟩
                  ·rw [if_neg c38] at H
                   exact absurd H (by simp)
                 ·rw [if_neg c37] at H
                  exact absurd H (by simp)
                ·rw [if_neg c36] at H
                 exact absurd H (by simp)
               ·rw [if_neg c35] at H
                exact absurd H (by simp)
              ·rw [if_neg c33] at H
               have c33b0 : decide (0 < x11_1) = false := decide_eq_false c33
               clear c33
               have H' := Qf.mk H
               clear H
               try go_wp2
               have n0_ : Qf (Kd.R (Kd.int .i64) 3 ((w26.setCell ⟨gb185, 0, none⟩ (.int .i64 ((Qs t175 (rd l1 x11_1)).f0))).setCell ⟨gb185, 1, none⟩ (.int .i64 ((Qs t175 (rd l1 x11_1)).f1))) w.heap.size (fun _ => True) u10 x10_1) := ⟨by (with_reducible repeat (first | apply Kd.QP | apply Kd.QQ | apply Kd.QT)); exact Kd.Q9 (Kd.R_far (p := ⟨gb185, 1, none⟩) (Kd.R_far (p := ⟨gb185, 0, none⟩) (Kd.R_types HO_10.out BK185.out (by decide)) (fun _ hk => hk.2) (.int .i64 ((Qs t175 (rd l1 x11_1)).f0))) (fun _ hk => hk.2) (.int .i64 ((Qs t175 (rd l1 x11_1)).f1))) (fun _ hk => trivial)⟩
               have n1_ : Qf (Kd.R k92 92 ((w26.setCell ⟨gb185, 0, none⟩ (.int .i64 ((Qs t175 (rd l1 x11_1)).f0))).setCell ⟨gb185, 1, none⟩ (.int .i64 ((Qs t175 (rd l1 x11_1)).f1))) w.heap.size (fun k_ => k_ ≠ gb185) (.slice (some ad184) t175.length co11) t175) := ⟨by (with_reducible repeat (first | apply Kd.QP | apply Kd.QQ | apply Kd.QT)); exact Kd.Q9 (Kd.R_far (p := ⟨gb185, 1, none⟩) (Kd.R_far (p := ⟨gb185, 0, none⟩) (Kd.Q9 HO_179001.out (fun k_ hk => (⟨hk, hk.2⟩ : _ ∧ k_ ≠ gb185))) (fun _ hk => hk.2) (.int .i64 ((Qs t175 (rd l1 x11_1)).f0))) (fun _ hk => hk.2) (.int .i64 ((Qs t175 (rd l1 x11_1)).f1))) (fun _ hk => hk.1.2)⟩
               have n2_ : Qf (((w26.setCell ⟨gb185, 0, none⟩ (.int .i64 ((Qs t175 (rd l1 x11_1)).f0))).setCell ⟨gb185, 1, none⟩ (.int .i64 ((Qs t175 (rd l1 x11_1)).f1))).heap[gb173]? = some (.cells #[.slice A0_0 l0_0.length c0_0, .slice A0_1 l0_1.length c0_1, .slice A0_2 l0_2.length c0_2] 37 (0, 0))) := ⟨by (with_reducible repeat (first | refine Qd ?_ _ | refine Qg ?_ | refine Qb ?_ _)); refine Qv ?_ NB173_185.out _; (with_reducible repeat (first | refine Qd ?_ _ | refine Qg ?_ | refine Qb ?_ _)); refine Qv ?_ NB173_185.out _; (with_reducible repeat (first | refine Qd ?_ _ | refine Qg ?_ | refine Qb ?_ _)); exact BK173.out⟩
               have n3_ : Qf (((w26.setCell ⟨gb185, 0, none⟩ (.int .i64 ((Qs t175 (rd l1 x11_1)).f0))).setCell ⟨gb185, 1, none⟩ (.int .i64 ((Qs t175 (rd l1 x11_1)).f1))).heap[gb178]? = some (.cells #[.int .i64 t174, .slice (some ad184) t175.length co11] 51 (0, 0))) := ⟨by (with_reducible repeat (first | refine Qd ?_ _ | refine Qg ?_ | refine Qb ?_ _)); refine Qv ?_ NB178_185.out _; (with_reducible repeat (first | refine Qd ?_ _ | refine Qg ?_ | refine Qb ?_ _)); refine Qv ?_ NB178_185.out _; (with_reducible repeat (first | refine Qd ?_ _ | refine Qg ?_ | refine Qb ?_ _)); exact BK178.out⟩
               have n4_ : Qf (((w26.setCell ⟨gb185, 0, none⟩ (.int .i64 ((Qs t175 (rd l1 x11_1)).f0))).setCell ⟨gb185, 1, none⟩ (.int .i64 ((Qs t175 (rd l1 x11_1)).f1))).heap[gb185]? = some (.cells #[.int .i64 ((Qs t175 (rd l1 x11_1)).f0), .int .i64 ((Qs t175 (rd l1 x11_1)).f1)] 92 (0, 0))) := ⟨by (with_reducible repeat (first | refine Qd ?_ _ | refine Qg ?_ | refine Qb ?_ _)); refine Qy (cs := #[.int .i64 ((Qs t175 (rd l1 x11_1)).f0), .int .i64 0]) ?_ 1 _ rfl; (with_reducible repeat (first | refine Qd ?_ _ | refine Qg ?_ | refine Qb ?_ _)); refine Qy (cs := #[.int .i64 0, .int .i64 0]) ?_ 0 _ rfl; (with_reducible repeat (first | refine Qd ?_ _ | refine Qg ?_ | refine Qb ?_ _)); exact BK185.out⟩
               have n5_ : Qf (Below w.heap.size w ((w26.setCell ⟨gb185, 0, none⟩ (.int .i64 ((Qs t175 (rd l1 x11_1)).f0))).setCell ⟨gb185, 1, none⟩ (.int .i64 ((Qs t175 (rd l1 x11_1)).f1)))) := ⟨by repeat (first | (with_reducible first | exact HB.out | apply Qi | apply Qa | apply Qj | refine Qk ?_ GE173.out | refine Qk ?_ GE178.out | refine Qk ?_ GE185.out) | exact HB.out)⟩
               (try clear HO_10)
               (try clear HO_179001)
               (try clear BK173)
               (try clear BK178)
               (try clear BK185)
               (try clear HB)
               generalize ((w26.setCell ⟨gb185, 0, none⟩ (.int .i64 ((Qs t175 (rd l1 x11_1)).f0))).setCell ⟨gb185, 1, none⟩ (.int .i64 ((Qs t175 (rd l1 x11_1)).f1))) = w41 at n0_ n1_ n2_ n3_ n4_ n5_ ⊢
               have HO_10 := n0_
               have HO_179001 := n1_
               have BK173 := n2_
               have BK178 := n3_
               have BK185 := n4_
               have HB := n5_
               clear n0_ n1_ n2_ n3_ n4_ n5_
               have n0_ := Qf.mk (Kd.QT HO_10.out)
               have n1_ := Qf.mk (Kd.QT HO_179001.out)
               have n2_ := Qf.mk (Qg BK173.out)
               have n3_ := Qf.mk (Qg BK178.out)
               have n4_ := Qf.mk (Qg BK185.out)
               have n5_ := Qf.mk (Qj HB.out)
               clear HO_10
               clear HO_179001
               clear BK173
               clear BK178
               clear BK185
               clear HB
               have HO_10 := n0_
               have HO_179001 := n1_
               have BK173 := n2_
               have BK178 := n3_
               have BK185 := n4_
               have HB := n5_
               clear n0_ n1_ n2_ n3_ n4_ n5_
               refine start_ (n := 27) (S := fun w' => w'.cell? ⟨gb185, 0, none⟩ = some (.int .i64 ((Qs t175 (rd l1 x11_1)).f0)) ∧ w'.cell? ⟨gb185, 1, none⟩ = some (.int .i64 ((Qs t175 (rd l1 x11_1)).f1))) (ds := []) #[false, false, false, false, false, false, false, false, false, false, false, false, false, false, false, false, false, false, false, false, false, false, false, false, false, false, false] (by kernel_rfl) rfl rfl ⟨(Qe BK185.out 0).trans rfl, (Qe BK185.out 1).trans rfl⟩ (fun hHeld => ?_); refine with_tabW Ql.tab10 Ql.bits10 (fun HT_ HW_ => ?_)
               generalize w41.drew = w42 at HO_10 HO_179001 BK173 BK178 BK185 HB hHeld ⊢
               refine QL (i := 0) (N := some 48) (v := ?_) (a' := ?_) #[true, false, false, false, false, false, false, false, false, false, false, false, false, false, false, false, false, false, false, false, false, false, false, false, false, false, false] rfl rfl (QD HT_.out (by kernel_rfl)) (fun _ _ _ h => h) (Or.inl ⟨by rfl, ?_⟩) ?_ ?_
               rotate_left
               ·intro w'
                go_simp
                with_reducible rfl
               rotate_left
               ·simp only [Act.put, List.setIfInBounds_toArray, List.set_cons_zero, List.set_cons_succ, Qt, Qu]
                rfl
               refine QL (i := 1) (N := some 49) (v := ?_) (a' := ?_) #[true, true, false, false, false, false, false, false, false, false, false, false, false, false, false, false, false, false, false, false, false, false, false, false, false, false, false] rfl rfl (QD HT_.out (by kernel_rfl)) (fun _ _ _ h => h) (Or.inl ⟨by rfl, ?_⟩) ?_ ?_
               rotate_left
               ·intro w'
                go_simp
                with_reducible rfl
               rotate_left
               ·simp only [Act.put, List.setIfInBounds_toArray, List.set_cons_zero, List.set_cons_succ, Qt, Qu]
                rfl
               refine QL (i := 2) (N := some 50) (v := ?_) (a' := ?_) #[true, true, true, false, false, false, false, false, false, false, false, false, false, false, false, false, false, false, false, false, false, false, false, false, false, false, false] rfl rfl (QD HT_.out (by kernel_rfl)) (fun _ _ _ h => h) (Or.inl ⟨by rfl, ?_⟩) ?_ ?_
               rotate_left
               ·intro w'
                go_simp
                with_reducible rfl
               rotate_left
               ·simp only [Act.put, List.setIfInBounds_toArray, List.set_cons_zero, List.set_cons_succ, Qt, Qu]
                rfl
               refine QL (i := 3) (N := some 51) (v := ?_) (a' := ?_) #[true, true, true, true, false, false, false, false, false, false, false, false, false, false, false, false, false, false, false, false, false, false, false, false, false, false, false] rfl rfl (QD HT_.out (by kernel_rfl)) (fun _ _ _ h => h) (Or.inl ⟨by rfl, ?_⟩) ?_ ?_
               rotate_left
               ·intro w'
                go_simp
                with_reducible rfl
               rotate_left
               ·simp only [Act.put, List.setIfInBounds_toArray, List.set_cons_zero, List.set_cons_succ, Qt, Qu]
                rfl
               refine QL (i := 5) (N := some 53) (v := ?_) (a' := ?_) #[true, true, true, true, false, true, false, false, false, false, false, false, false, false, false, false, false, false, false, false, false, false, false, false, false, false, false] rfl rfl (QD HT_.out (by kernel_rfl)) (fun _ _ _ h => h) (Or.inl ⟨by rfl, ?_⟩) ?_ ?_
               rotate_left
               ·intro w'
                go_simp
                with_reducible rfl
               rotate_left
               ·simp only [Act.put, List.setIfInBounds_toArray, List.set_cons_zero, List.set_cons_succ, Qt, Qu]
                rfl
               refine take_ (i := 4) (N := some 52) (v := ?_) (a' := ?_) #[true, true, true, true, true, true, false, false, false, false, false, false, false, false, false, false, false, false, false, false, false, false, false, false, false, false, false] rfl rfl (Q8 HT_.out HW_.out (by kernel_rfl)) (fun _ _ _ h => h) (Or.inl ⟨by rfl, ?_⟩) hHeld ?_ ?_
               rotate_left
               ·rintro w' ⟨s0, s1⟩
                go_simp
                with_reducible rfl
               rotate_left
               ·simp only [Act.put, List.setIfInBounds_toArray, List.set_cons_zero, List.set_cons_succ, Qt, Qu]
                rfl
               refine QL (i := 6) (N := some 54) (v := ?_) (a' := ?_) #[true, true, true, true, true, true, true, false, false, false, false, false, false, false, false, false, false, false, false, false, false, false, false, false, false, false, false] rfl rfl (QD HT_.out (by kernel_rfl)) (fun _ _ _ h => h) (Or.inl ⟨by rfl, ?_⟩) ?_ ?_
               rotate_left
               ·intro w'
                go_simp
                with_reducible rfl
               rotate_left
               ·simp only [Act.put, List.setIfInBounds_toArray, List.set_cons_zero, List.set_cons_succ, Qt, Qu]
                rfl
               refine QL (i := 7) (N := some 55) (v := ?_) (a' := ?_) #[true, true, true, true, true, true, true, true, false, false, false, false, false, false, false, false, false, false, false, false, false, false, false, false, false, false, false] rfl rfl (QD HT_.out (by kernel_rfl)) (fun _ _ _ h => h) (Or.inl ⟨by rfl, ?_⟩) ?_ ?_
               rotate_left
               ·intro w'
                go_simp
                with_reducible rfl
               rotate_left
               ·simp only [Act.put, List.setIfInBounds_toArray, List.set_cons_zero, List.set_cons_succ, Qt, Qu]
                rfl
               refine QL (i := 8) (N := some 56) (v := ?_) (a' := ?_) #[true, true, true, true, true, true, true, true, true, false, false, false, false, false, false, false, false, false, false, false, false, false, false, false, false, false, false] rfl rfl (QD HT_.out (by kernel_rfl)) (fun _ _ _ h => h) (Or.inl ⟨by rfl, ?_⟩) ?_ ?_
               rotate_left
               ·intro w'
                go_simp
                with_reducible rfl
               rotate_left
               ·simp only [Act.put, List.setIfInBounds_toArray, List.set_cons_zero, List.set_cons_succ, Qt, Qu]
                rfl
               refine QL (i := 9) (N := some 57) (v := ?_) (a' := ?_) #[true, true, true, true, true, true, true, true, true, true, false, false, false, false, false, false, false, false, false, false, false, false, false, false, false, false, false] rfl rfl (QD HT_.out (by kernel_rfl)) (fun _ _ _ h => h) (Or.inl ⟨by rfl, ?_⟩) ?_ ?_
               rotate_left
               ·intro w'
                go_simp
                with_reducible rfl
               rotate_left
               ·simp only [Act.put, List.setIfInBounds_toArray, List.set_cons_zero, List.set_cons_succ, Qt, Qu]
                rfl
               refine QL (i := 10) (N := some 58) (v := ?_) (a' := ?_) #[true, true, true, true, true, true, true, true, true, true, true, false, false, false, false, false, false, false, false, false, false, false, false, false, false, false, false] rfl rfl (QD HT_.out (by kernel_rfl)) (fun _ _ _ h => h) (Or.inl ⟨by rfl, ?_⟩) ?_ ?_
               rotate_left
               ·intro w'
                go_simp
                with_reducible rfl
               rotate_left
               ·simp only [Act.put, List.setIfInBounds_toArray, List.set_cons_zero, List.set_cons_succ, Qt, Qu]
                rfl
               refine QL (i := 11) (N := some 59) (v := ?_) (a' := ?_) #[true, true, true, true, true, true, true, true, true, true, true, true, false, false, false, false, false, false, false, false, false, false, false, false, false, false, false] rfl rfl (QD HT_.out (by kernel_rfl)) (fun _ _ _ h => h) (Or.inl ⟨by rfl, ?_⟩) ?_ ?_
               rotate_left
               ·intro w'
                go_simp
                with_reducible rfl
               rotate_left
               ·simp only [Act.put, List.setIfInBounds_toArray, List.set_cons_zero, List.set_cons_succ, Qt, Qu]
                rfl
               refine QL (i := 12) (N := some 60) (v := undef) (a' := ?_) #[true, true, true, true, true, true, true, true, true, true, true, true, true, false, false, false, false, false, false, false, false, false, false, false, false, false, false] rfl rfl (QD HT_.out (by kernel_rfl)) (fun _ _ _ h => h) (Or.inr ⟨by rfl, rfl⟩) ?_ ?_
               rotate_left
               ·simp only [Act.put, List.setIfInBounds_toArray, List.set_cons_zero, List.set_cons_succ, Qt, Qu]
                rfl
               refine QL (i := 13) (N := some 61) (v := undef) (a' := ?_) #[true, true, true, true, true, true, true, true, true, true, true, true, true, true, false, false, false, false, false, false, false, false, false, false, false, false, false] rfl rfl (QD HT_.out (by kernel_rfl)) (fun _ _ _ h => h) (Or.inr ⟨by rfl, rfl⟩) ?_ ?_
               rotate_left
               ·simp only [Act.put, List.setIfInBounds_toArray, List.set_cons_zero, List.set_cons_succ, Qt, Qu]
                rfl
               refine QL (i := 14) (N := some 62) (v := undef) (a' := ?_) #[true, true, true, true, true, true, true, true, true, true, true, true, true, true, true, false, false, false, false, false, false, false, false, false, false, false, false] rfl rfl (QD HT_.out (by kernel_rfl)) (fun _ _ _ h => h) (Or.inr ⟨by rfl, rfl⟩) ?_ ?_
               rotate_left
               ·simp only [Act.put, List.setIfInBounds_toArray, List.set_cons_zero, List.set_cons_succ, Qt, Qu]
                rfl
               refine QL (i := 15) (N := some 63) (v := undef) (a' := ?_) #[true, true, true, true, true, true, true, true, true, true, true, true, true, true, true, true, false, false, false, false, false, false, false, false, false, false, false] rfl rfl (QD HT_.out (by kernel_rfl)) (fun _ _ _ h => h) (Or.inr ⟨by rfl, rfl⟩) ?_ ?_
               rotate_left
               ·simp only [Act.put, List.setIfInBounds_toArray, List.set_cons_zero, List.set_cons_succ, Qt, Qu]
                rfl
               refine QL (i := 16) (N := some 64) (v := undef) (a' := ?_) #[true, true, true, true, true, true, true, true, true, true, true, true, true, true, true, true, true, false, false, false, false, false, false, false, false, false, false] rfl rfl (QD HT_.out (by kernel_rfl)) (fun _ _ _ h => h) (Or.inr ⟨by rfl, rfl⟩) ?_ ?_
               rotate_left
               ·simp only [Act.put, List.setIfInBounds_toArray, List.set_cons_zero, List.set_cons_succ, Qt, Qu]
                rfl
               refine QL (i := 17) (N := some 65) (v := undef) (a' := ?_) #[true, true, true, true, true, true, true, true, true, true, true, true, true, true, true, true, true, true, false, false, false, false, false, false, false, false, false] rfl rfl (QD HT_.out (by kernel_rfl)) (fun _ _ _ h => h) (Or.inr ⟨by rfl, rfl⟩) ?_ ?_
               rotate_left
               ·simp only [Act.put, List.setIfInBounds_toArray, List.set_cons_zero, List.set_cons_succ, Qt, Qu]
                rfl
               refine QL (i := 18) (N := some 66) (v := undef) (a' := ?_) #[true, true, true, true, true, true, true, true, true, true, true, true, true, true, true, true, true, true, true, false, false, false, false, false, false, false, false] rfl rfl (QD HT_.out (by kernel_rfl)) (fun _ _ _ h => h) (Or.inr ⟨by rfl, rfl⟩) ?_ ?_
               rotate_left
               ·simp only [Act.put, List.setIfInBounds_toArray, List.set_cons_zero, List.set_cons_succ, Qt, Qu]
                rfl
               refine QL (i := 19) (N := some 67) (v := undef) (a' := ?_) #[true, true, true, true, true, true, true, true, true, true, true, true, true, true, true, true, true, true, true, true, false, false, false, false, false, false, false] rfl rfl (QD HT_.out (by kernel_rfl)) (fun _ _ _ h => h) (Or.inr ⟨by rfl, rfl⟩) ?_ ?_
               rotate_left
               ·simp only [Act.put, List.setIfInBounds_toArray, List.set_cons_zero, List.set_cons_succ, Qt, Qu]
                rfl
               refine QL (i := 20) (N := some 68) (v := undef) (a' := ?_) #[true, true, true, true, true, true, true, true, true, true, true, true, true, true, true, true, true, true, true, true, true, false, false, false, false, false, false] rfl rfl (QD HT_.out (by kernel_rfl)) (fun _ _ _ h => h) (Or.inr ⟨by rfl, rfl⟩) ?_ ?_
               rotate_left
               ·simp only [Act.put, List.setIfInBounds_toArray, List.set_cons_zero, List.set_cons_succ, Qt, Qu]
                rfl
               refine QL (i := 21) (N := some 69) (v := undef) (a' := ?_) #[true, true, true, true, true, true, true, true, true, true, true, true, true, true, true, true, true, true, true, true, true, true, false, false, false, false, false] rfl rfl (QD HT_.out (by kernel_rfl)) (fun _ _ _ h => h) (Or.inr ⟨by rfl, rfl⟩) ?_ ?_
               rotate_left
               ·simp only [Act.put, List.setIfInBounds_toArray, List.set_cons_zero, List.set_cons_succ, Qt, Qu]
                rfl
               refine QL (i := 22) (N := some 70) (v := undef) (a' := ?_) #[true, true, true, true, true, true, true, true, true, true, true, true, true, true, true, true, true, true, true, true, true, true, true, false, false, false, false] rfl rfl (QD HT_.out (by kernel_rfl)) (fun _ _ _ h => h) (Or.inr ⟨by rfl, rfl⟩) ?_ ?_
               rotate_left
               ·simp only [Act.put, List.setIfInBounds_toArray, List.set_cons_zero, List.set_cons_succ, Qt, Qu]
                rfl
               refine QL (i := 23) (N := some 71) (v := undef) (a' := ?_) #[true, true, true, true, true, true, true, true, true, true, true, true, true, true, true, true, true, true, true, true, true, true, true, true, false, false, false] rfl rfl (QD HT_.out (by kernel_rfl)) (fun _ _ _ h => h) (Or.inr ⟨by rfl, rfl⟩) ?_ ?_
               rotate_left
               ·simp only [Act.put, List.setIfInBounds_toArray, List.set_cons_zero, List.set_cons_succ, Qt, Qu]
                rfl
               refine QL (i := 24) (N := some 72) (v := undef) (a' := ?_) #[true, true, true, true, true, true, true, true, true, true, true, true, true, true, true, true, true, true, true, true, true, true, true, true, true, false, false] rfl rfl (QD HT_.out (by kernel_rfl)) (fun _ _ _ h => h) (Or.inr ⟨by rfl, rfl⟩) ?_ ?_
               rotate_left
               ·simp only [Act.put, List.setIfInBounds_toArray, List.set_cons_zero, List.set_cons_succ, Qt, Qu]
                rfl
               refine QL (i := 25) (N := some 73) (v := ?_) (a' := ?_) #[true, true, true, true, true, true, true, true, true, true, true, true, true, true, true, true, true, true, true, true, true, true, true, true, true, true, false] rfl rfl (QD HT_.out (by kernel_rfl)) (fun _ _ _ h => h) (Or.inl ⟨by rfl, ?_⟩) ?_ ?_
               rotate_left
               ·intro w'
                go_simp
                with_reducible rfl
               rotate_left
               ·simp only [Act.put, List.setIfInBounds_toArray, List.set_cons_zero, List.set_cons_succ, Qt, Qu]
                rfl
               refine QL (i := 26) (N := some 74) (v := ?_) (a' := ?_) #[true, true, true, true, true, true, true, true, true, true, true, true, true, true, true, true, true, true, true, true, true, true, true, true, true, true, true] rfl rfl (QD HT_.out (by kernel_rfl)) (fun _ _ _ h => h) (Or.inl ⟨by rfl, ?_⟩) ?_ ?_
               rotate_left
               ·intro w'
                go_simp
                with_reducible rfl
               rotate_left
               ·simp only [Act.put, List.setIfInBounds_toArray, List.set_cons_zero, List.set_cons_succ, Qt, Qu]
                rfl
               refine done_ (done_of HT_.out (by kernel_rfl)) ?_
               try go_wp2
               go_meet
               case rel => exact ⟨_, (false), (by first | rfl | (simp; done) | (simp [*]; done)), H', ⟨by have := HK1.out; have := HJ13.out; first | omega | exact Nat.le_refl _⟩, ⟨by (with_reducible repeat (first | apply Kd.QP | apply Kd.QQ | apply Kd.QT)); exact HO_10.out⟩, ⟨by (with_reducible repeat (first | apply Kd.QP | apply Kd.QQ | apply Kd.QT)); exact HO_179001.out⟩, ⟨by (with_reducible repeat (first | refine Qd ?_ _ | refine Qg ?_ | refine Qb ?_ _)); exact BK173.out⟩, ⟨by (with_reducible repeat (first | refine Qd ?_ _ | refine Qg ?_ | refine Qb ?_ _)); exact BK178.out⟩, ⟨by (with_reducible repeat (first | refine Qd ?_ _ | refine Qg ?_ | refine Qb ?_ _)); exact BK185.out⟩, ⟨by repeat (first | (with_reducible first | exact HB.out | apply Qi | apply Qa | apply Qj | refine Qk ?_ GE173.out | refine Qk ?_ GE178.out | refine Qk ?_ GE185.out) | exact HB.out)⟩⟩
            ·rw [if_neg c29] at H
             have c29b0 : (x11_1 == 0) = false := beq_eq_false_iff_ne.mpr c29
             have c29b1 : (x11_1 != 0) = true := bne_iff_ne.mpr c29
             (first | rw [c29b0] | (simp only [Qt, Qu]; rw [c29b0]) | skip)
             by_cases c43 : x11_1 > 0
             ·rw [if_pos c43] at H
              have c43b0 : decide (0 < x11_1) = true := decide_eq_true c43
              clear c43
              obtain ⟨ji44, hji44⟩ : ∃ j_ : Int, (wrap64 (x11_1 - 1)) = j_ := ⟨_, rfl⟩
              replace H : (if 0 ≤ (ji44) then (if (ji44) < (l1.length : Int) then (if 0 ≤ (rd l1 (ji44)) then (if (rd l1 (ji44)) < (t175.length : Int) then (Ql.j2 kj13 l1 (l0_2.length : Int) x10_1 x11_1 (((Qs t175 (rd l1 x11_1)).f0) != ((Qs t175 (rd l1 (ji44))).f1)) t174 t175 ((Qs t175 (rd l1 x11_1)).f0) ((Qs t175 (rd l1 x11_1)).f1)) else (none)) else (none)) else (none)) else (none)) = some (r1, r2) := by first | (rw [hji44] at H; exact H) | (simp only [hji44] at H ⊢; exact H)
              have hji44w : (IntKind.i64.wrap (x11_1 - 1)) = ji44 := (Qt _).trans hji44
              by_cases c45 : 0 ≤ (ji44)
              ·rw [if_pos c45] at H
               have c45b0 : decide (0 ≤ (ji44)) = true := decide_eq_true c45
               clear c45
               by_cases c46 : (ji44) < (l1.length : Int)
               ·rw [if_pos c46] at H
                have c46b0 : decide ((ji44) < (l1.length : Int)) = true := decide_eq_true c46
                clear c46
                by_cases c47 : 0 ≤ (rd l1 (ji44))
                ·rw [if_pos c47] at H
                 have c47b0 : decide (0 ≤ (rd l1 (ji44))) = true := decide_eq_true c47
                 clear c47
                 by_cases c48 : (rd l1 (ji44)) < (t175.length : Int)
                 ·rw [if_pos c48] at H
                  have c48b0 : decide ((rd l1 (ji44)) < (t175.length : Int)) = true := decide_eq_true c48
                  clear c48
                  have H' := Qf.mk H
                  clear H
                  try go_wp2
                  have n0_ : Qf (Kd.R (Kd.int .i64) 3 ((w26.setCell ⟨gb185, 0, none⟩ (.int .i64 ((Qs t175 (rd l1 x11_1)).f0))).setCell ⟨gb185, 1, none⟩ (.int .i64 ((Qs t175 (rd l1 x11_1)).f1))) w.heap.size (fun _ => True) u10 x10_1) := ⟨by (with_reducible repeat (first | apply Kd.QP | apply Kd.QQ | apply Kd.QT)); exact Kd.Q9 (Kd.R_far (p := ⟨gb185, 1, none⟩) (Kd.R_far (p := ⟨gb185, 0, none⟩) (Kd.R_types HO_10.out BK185.out (by decide)) (fun _ hk => hk.2) (.int .i64 ((Qs t175 (rd l1 x11_1)).f0))) (fun _ hk => hk.2) (.int .i64 ((Qs t175 (rd l1 x11_1)).f1))) (fun _ hk => trivial)⟩
                  have n1_ : Qf (Kd.R k92 92 ((w26.setCell ⟨gb185, 0, none⟩ (.int .i64 ((Qs t175 (rd l1 x11_1)).f0))).setCell ⟨gb185, 1, none⟩ (.int .i64 ((Qs t175 (rd l1 x11_1)).f1))) w.heap.size (fun k_ => k_ ≠ gb185) (.slice (some ad184) t175.length co11) t175) := ⟨by (with_reducible repeat (first | apply Kd.QP | apply Kd.QQ | apply Kd.QT)); exact Kd.Q9 (Kd.R_far (p := ⟨gb185, 1, none⟩) (Kd.R_far (p := ⟨gb185, 0, none⟩) (Kd.Q9 HO_179001.out (fun k_ hk => (⟨hk, hk.2⟩ : _ ∧ k_ ≠ gb185))) (fun _ hk => hk.2) (.int .i64 ((Qs t175 (rd l1 x11_1)).f0))) (fun _ hk => hk.2) (.int .i64 ((Qs t175 (rd l1 x11_1)).f1))) (fun _ hk => hk.1.2)⟩
                  have n2_ : Qf (((w26.setCell ⟨gb185, 0, none⟩ (.int .i64 ((Qs t175 (rd l1 x11_1)).f0))).setCell ⟨gb185, 1, none⟩ (.int .i64 ((Qs t175 (rd l1 x11_1)).f1))).heap[gb173]? = some (.cells #[.slice A0_0 l0_0.length c0_0, .slice A0_1 l0_1.length c0_1, .slice A0_2 l0_2.length c0_2] 37 (0, 0))) := ⟨by (with_reducible repeat (first | refine Qd ?_ _ | refine Qg ?_ | refine Qb ?_ _)); refine Qv ?_ NB173_185.out _; (with_reducible repeat (first | refine Qd ?_ _ | refine Qg ?_ | refine Qb ?_ _)); refine Qv ?_ NB173_185.out _; (with_reducible repeat (first | refine Qd ?_ _ | refine Qg ?_ | refine Qb ?_ _)); exact BK173.out⟩
                  have n3_ : Qf (((w26.setCell ⟨gb185, 0, none⟩ (.int .i64 ((Qs t175 (rd l1 x11_1)).f0))).setCell ⟨gb185, 1, none⟩ (.int .i64 ((Qs t175 (rd l1 x11_1)).f1))).heap[gb178]? = some (.cells #[.int .i64 t174, .slice (some ad184) t175.length co11] 51 (0, 0))) := ⟨by (with_reducible repeat (first | refine Qd ?_ _ | refine Qg ?_ | refine Qb ?_ _)); refine Qv ?_ NB178_185.out _; (with_reducible repeat (first | refine Qd ?_ _ | refine Qg ?_ | refine Qb ?_ _)); refine Qv ?_ NB178_185.out _; (with_reducible repeat (first | refine Qd ?_ _ | refine Qg ?_ | refine Qb ?_ _)); exact BK178.out⟩
                  have n4_ : Qf (((w26.setCell ⟨gb185, 0, none⟩ (.int .i64 ((Qs t175 (rd l1 x11_1)).f0))).setCell ⟨gb185, 1, none⟩ (.int .i64 ((Qs t175 (rd l1 x11_1)).f1))).heap[gb185]? = some (.cells #[.int .i64 ((Qs t175 (rd l1 x11_1)).f0), .int .i64 ((Qs t175 (rd l1 x11_1)).f1)] 92 (0, 0))) := ⟨by (with_reducible repeat (first | refine Qd ?_ _ | refine Qg ?_ | refine Qb ?_ _)); refine Qy (cs := #[.int .i64 ((Qs t175 (rd l1 x11_1)).f0), .int .i64 0]) ?_ 1 _ rfl; (with_reducible repeat (first | refine Qd ?_ _ | refine Qg ?_ | refine Qb ?_ _)); refine Qy (cs := #[.int .i64 0, .int .i64 0]) ?_ 0 _ rfl; (with_reducible repeat (first | refine Qd ?_ _ | refine Qg ?_ | refine Qb ?_ _)); exact BK185.out⟩
                  have n5_ : Qf (Below w.heap.size w ((w26.setCell ⟨gb185, 0, none⟩ (.int .i64 ((Qs t175 (rd l1 x11_1)).f0))).setCell ⟨gb185, 1, none⟩ (.int .i64 ((Qs t175 (rd l1 x11_1)).f1)))) := ⟨by repeat (first | (with_reducible first | exact HB.out | apply Qi | apply Qa | apply Qj | refine Qk ?_ GE173.out | refine Qk ?_ GE178.out | refine Qk ?_ GE185.out) | exact HB.out)⟩
                  (try clear HO_10)
                  (try clear HO_179001)
                  (try clear BK173)
                  (try clear BK178)
                  (try clear BK185)
                  (try clear HB)
                  generalize ((w26.setCell ⟨gb185, 0, none⟩ (.int .i64 ((Qs t175 (rd l1 x11_1)).f0))).setCell ⟨gb185, 1, none⟩ (.int .i64 ((Qs t175 (rd l1 x11_1)).f1))) = w49 at n0_ n1_ n2_ n3_ n4_ n5_ ⊢
                  have HO_10 := n0_
                  have HO_179001 := n1_
                  have BK173 := n2_
                  have BK178 := n3_
                  have BK185 := n4_
                  have HB := n5_
                  clear n0_ n1_ n2_ n3_ n4_ n5_
                  have n0_ := Qf.mk (Kd.QT HO_10.out)
                  have n1_ := Qf.mk (Kd.QT HO_179001.out)
                  have n2_ := Qf.mk (Qg BK173.out)
                  have n3_ := Qf.mk (Qg BK178.out)
                  have n4_ := Qf.mk (Qg BK185.out)
                  have n5_ := Qf.mk (Qj HB.out)
                  clear HO_10
                  clear HO_179001
                  clear BK173
                  clear BK178
                  clear BK185
                  clear HB
                  have HO_10 := n0_
                  have HO_179001 := n1_
                  have BK173 := n2_
                  have BK178 := n3_
                  have BK185 := n4_
                  have HB := n5_
                  clear n0_ n1_ n2_ n3_ n4_ n5_
                  have p188 : 0 ≤ ((ji44) : Int) := of_decide_eq_true (by first | (with_reducible assumption) | assumption)
                  have q188 : (ji44) < (l1.length : Int) := of_decide_eq_true (by first | (with_reducible assumption) | assumption)
                  obtain ⟨ad188, e188, hx188_0⟩ := Kd.at_int HR1.out (ji44) p188 q188
                  have hw188_0 := hx188_0
                  obtain rfl : ad183 = ad188 := (by injection e188)
                  replace hx188_0 := (HB.out.cell (World.block_lt_of_cell? w _ hx188_0)).trans hx188_0
                  replace p188 := eq_true p188
                  replace q188 := eq_true q188
                  have p189 : 0 ≤ ((rd l1 (ji44)) : Int) := of_decide_eq_true (by first | (with_reducible assumption) | assumption)
                  have q189 : (rd l1 (ji44)) < (t175.length : Int) := of_decide_eq_true (by first | (with_reducible assumption) | assumption)
                  obtain ⟨ad189, e189, hx189_0, hx189_1⟩ := at_T92 (Kd.R_reads' HO_179001.out).2.2 (rd l1 (ji44)) p189 q189
                  obtain rfl : ad184 = ad189 := (by injection e189)
                  replace p189 := eq_true p189
                  replace q189 := eq_true q189
                  refine start_ (n := 27) (S := fun w' => w'.cell? ⟨gb185, 0, none⟩ = some (.int .i64 ((Qs t175 (rd l1 x11_1)).f0)) ∧ w'.cell? ⟨gb185, 1, none⟩ = some (.int .i64 ((Qs t175 (rd l1 x11_1)).f1)) ∧ w'.cell? ⟨gb178, 0, none⟩ = some (.int .i64 t174) ∧ w'.cell? ⟨gb178, 1, none⟩ = some (.slice (some ad184) t175.length co11) ∧ w'.cell? (ad183.add ((ji44)).toNat) = some (.int .i64 (rd l1 (ji44))) ∧ w'.cell? (ad184.add (((rd l1 (ji44))).toNat * 2)) = some (.int .i64 ((Qs t175 (rd l1 (ji44))).f0)) ∧ w'.cell? ⟨(ad184.add (((rd l1 (ji44))).toNat * 2)).block, (ad184.add (((rd l1 (ji44))).toNat * 2)).off + 1, none⟩ = some (.int .i64 ((Qs t175 (rd l1 (ji44))).f1))) (ds := []) #[false, false, false, false, false, false, false, false, false, false, false, false, false, false, false, false, false, false, false, false, false, false, false, false, false, false, false] (by kernel_rfl) rfl rfl ⟨(Qe BK185.out 0).trans rfl, (Qe BK185.out 1).trans rfl, (Qe BK178.out 0).trans rfl, (Qe BK178.out 1).trans rfl, ((HB.out.cell (World.block_lt_of_cell? w _ hw188_0)).trans hw188_0), hx189_0, hx189_1⟩ (fun hHeld => ?_); refine with_tabW Ql.tab10 Ql.bits10 (fun HT_ HW_ => ?_)
                  generalize w49.drew = w50 at HO_10 HO_179001 BK173 BK178 BK185 HB hx188_0 hx189_0 hx189_1 hHeld ⊢
                  refine QL (i := 0) (N := some 48) (v := ?_) (a' := ?_) #[true, false, false, false, false, false, false, false, false, false, false, false, false, false, false, false, false, false, false, false, false, false, false, false, false, false, false] rfl rfl (QD HT_.out (by kernel_rfl)) (fun _ _ _ h => h) (Or.inl ⟨by rfl, ?_⟩) ?_ ?_
                  rotate_left
                  ·intro w'
                   go_simp
                   with_reducible rfl
                  rotate_left
                  ·simp only [Act.put, List.setIfInBounds_toArray, List.set_cons_zero, List.set_cons_succ, Qt, Qu]
                   rfl
                  refine QL (i := 1) (N := some 49) (v := ?_) (a' := ?_) #[true, true, false, false, false, false, false, false, false, false, false, false, false, false, false, false, false, false, false, false, false, false, false, false, false, false, false] rfl rfl (QD HT_.out (by kernel_rfl)) (fun _ _ _ h => h) (Or.inl ⟨by rfl, ?_⟩) ?_ ?_
                  rotate_left
                  ·intro w'
                   go_simp
                   with_reducible rfl
                  rotate_left
                  ·simp only [Act.put, List.setIfInBounds_toArray, List.set_cons_zero, List.set_cons_succ, Qt, Qu]
                   rfl
                  refine QL (i := 2) (N := some 50) (v := ?_) (a' := ?_) #[true, true, true, false, false, false, false, false, false, false, false, false, false, false, false, false, false, false, false, false, false, false, false, false, false, false, false] rfl rfl (QD HT_.out (by kernel_rfl)) (fun _ _ _ h => h) (Or.inl ⟨by rfl, ?_⟩) ?_ ?_
                  rotate_left
                  ·intro w'
                   go_simp
                   with_reducible rfl
                  rotate_left
                  ·simp only [Act.put, List.setIfInBounds_toArray, List.set_cons_zero, List.set_cons_succ, Qt, Qu]
                   rfl
                  refine QL (i := 3) (N := some 51) (v := undef) (a' := ?_) #[true, true, true, true, false, false, false, false, false, false, false, false, false, false, false, false, false, false, false, false, false, false, false, false, false, false, false] rfl rfl (QD HT_.out (by kernel_rfl)) (fun _ _ _ h => h) (Or.inr ⟨by rfl, rfl⟩) ?_ ?_
                  rotate_left
                  ·simp only [Act.put, List.setIfInBounds_toArray, List.set_cons_zero, List.set_cons_succ, Qt, Qu]
                   rfl
                  refine QL (i := 4) (N := some 52) (v := undef) (a' := ?_) #[true, true, true, true, true, false, false, false, false, false, false, false, false, false, false, false, false, false, false, false, false, false, false, false, false, false, false] rfl rfl (QD HT_.out (by kernel_rfl)) (fun _ _ _ h => h) (Or.inr ⟨by rfl, rfl⟩) ?_ ?_
                  rotate_left
                  ·simp only [Act.put, List.setIfInBounds_toArray, List.set_cons_zero, List.set_cons_succ, Qt, Qu]
                   rfl
                  refine QL (i := 5) (N := some 53) (v := undef) (a' := ?_) #[true, true, true, true, true, true, false, false, false, false, false, false, false, false, false, false, false, false, false, false, false, false, false, false, false, false, false] rfl rfl (QD HT_.out (by kernel_rfl)) (fun _ _ _ h => h) (Or.inr ⟨by rfl, rfl⟩) ?_ ?_
                  rotate_left
                  ·simp only [Act.put, List.setIfInBounds_toArray, List.set_cons_zero, List.set_cons_succ, Qt, Qu]
                   rfl
                  refine QL (i := 6) (N := some 54) (v := undef) (a' := ?_) #[true, true, true, true, true, true, true, false, false, false, false, false, false, false, false, false, false, false, false, false, false, false, false, false, false, false, false] rfl rfl (QD HT_.out (by kernel_rfl)) (fun _ _ _ h => h) (Or.inr ⟨by rfl, rfl⟩) ?_ ?_
                  rotate_left
                  ·simp only [Act.put, List.setIfInBounds_toArray, List.set_cons_zero, List.set_cons_succ, Qt, Qu]
                   rfl
                  refine QL (i := 7) (N := some 55) (v := ?_) (a' := ?_) #[true, true, true, true, true, true, true, true, false, false, false, false, false, false, false, false, false, false, false, false, false, false, false, false, false, false, false] rfl rfl (QD HT_.out (by kernel_rfl)) (fun _ _ _ h => h) (Or.inl ⟨by rfl, ?_⟩) ?_ ?_
                  rotate_left
                  ·intro w'
                   go_simp
                   with_reducible rfl
                  rotate_left
                  ·simp only [Act.put, List.setIfInBounds_toArray, List.set_cons_zero, List.set_cons_succ, Qt, Qu]
                   rfl
                  refine QL (i := 8) (N := some 56) (v := ?_) (a' := ?_) #[true, true, true, true, true, true, true, true, true, false, false, false, false, false, false, false, false, false, false, false, false, false, false, false, false, false, false] rfl rfl (QD HT_.out (by kernel_rfl)) (fun _ _ _ h => h) (Or.inl ⟨by rfl, ?_⟩) ?_ ?_
                  rotate_left
                  ·intro w'
                   go_simp
                   with_reducible rfl
                  rotate_left
                  ·simp only [Act.put, List.setIfInBounds_toArray, List.set_cons_zero, List.set_cons_succ, Qt, Qu]
                   rfl
                  refine QL (i := 9) (N := some 57) (v := ?_) (a' := ?_) #[true, true, true, true, true, true, true, true, true, true, false, false, false, false, false, false, false, false, false, false, false, false, false, false, false, false, false] rfl rfl (QD HT_.out (by kernel_rfl)) (fun _ _ _ h => h) (Or.inl ⟨by rfl, ?_⟩) ?_ ?_
                  rotate_left
                  ·intro w'
                   go_simp
                   with_reducible rfl
                  rotate_left
                  ·simp only [Act.put, List.setIfInBounds_toArray, List.set_cons_zero, List.set_cons_succ, Qt, Qu]
                   rfl
                  refine QL (i := 10) (N := some 58) (v := ?_) (a' := ?_) #[true, true, true, true, true, true, true, true, true, true, true, false, false, false, false, false, false, false, false, false, false, false, false, false, false, false, false] rfl rfl (QD HT_.out (by kernel_rfl)) (fun _ _ _ h => h) (Or.inl ⟨by rfl, ?_⟩) ?_ ?_
                  rotate_left
                  ·intro w'
                   go_simp
                   with_reducible rfl
                  rotate_left
                  ·simp only [Act.put, List.setIfInBounds_toArray, List.set_cons_zero, List.set_cons_succ, Qt, Qu]
                   rfl
                  refine QL (i := 11) (N := some 59) (v := ?_) (a' := ?_) #[true, true, true, true, true, true, true, true, true, true, true, true, false, false, false, false, false, false, false, false, false, false, false, false, false, false, false] rfl rfl (QD HT_.out (by kernel_rfl)) (fun _ _ _ h => h) (Or.inl ⟨by rfl, ?_⟩) ?_ ?_
                  rotate_left
                  ·intro w'
                   go_simp
                   with_reducible rfl
                  rotate_left
                  ·simp only [Act.put, List.setIfInBounds_toArray, List.set_cons_zero, List.set_cons_succ, Qt, Qu]
                   rfl
                  refine QL (i := 12) (N := some 60) (v := ?_) (a' := ?_) #[true, true, true, true, true, true, true, true, true, true, true, true, true, false, false, false, false, false, false, false, false, false, false, false, false, false, false] rfl rfl (QD HT_.out (by kernel_rfl)) (fun _ _ _ h => h) (Or.inl ⟨by rfl, ?_⟩) ?_ ?_
                  rotate_left
                  ·intro w'
                   go_simp
                   with_reducible rfl
                  rotate_left
                  ·simp only [Act.put, List.setIfInBounds_toArray, List.set_cons_zero, List.set_cons_succ, Qt, Qu]
                   rfl
                  refine QL (i := 14) (N := some 62) (v := ?_) (a' := ?_) #[true, true, true, true, true, true, true, true, true, true, true, true, true, false, true, false, false, false, false, false, false, false, false, false, false, false, false] rfl rfl (QD HT_.out (by kernel_rfl)) (fun _ _ _ h => h) (Or.inl ⟨by rfl, ?_⟩) ?_ ?_
                  rotate_left
                  ·intro w'
                   go_simp
                   with_reducible rfl
                  rotate_left
                  ·simp only [Act.put, List.setIfInBounds_toArray, List.set_cons_zero, List.set_cons_succ, Qt, Qu]
                   rfl
                  refine QL (i := 16) (N := some 64) (v := ?_) (a' := ?_) #[true, true, true, true, true, true, true, true, true, true, true, true, true, false, true, false, true, false, false, false, false, false, false, false, false, false, false] rfl rfl (QD HT_.out (by kernel_rfl)) (fun _ _ _ h => h) (Or.inl ⟨by rfl, ?_⟩) ?_ ?_
                  rotate_left
                  ·intro w'
                   go_simp
                   with_reducible rfl
                  rotate_left
                  ·simp only [Act.put, List.setIfInBounds_toArray, List.set_cons_zero, List.set_cons_succ, Qt, Qu]
                   rfl
                  refine QL (i := 17) (N := some 65) (v := ?_) (a' := ?_) #[true, true, true, true, true, true, true, true, true, true, true, true, true, false, true, false, true, true, false, false, false, false, false, false, false, false, false] rfl rfl (QD HT_.out (by kernel_rfl)) (fun _ _ _ h => h) (Or.inl ⟨by rfl, ?_⟩) ?_ ?_
                  rotate_left
                  ·intro w'
                   go_simp
                   with_reducible rfl
                  rotate_left
                  ·simp only [Act.put, List.setIfInBounds_toArray, List.set_cons_zero, List.set_cons_succ, Qt, Qu]
                   rfl
                  refine QL (i := 18) (N := some 66) (v := ?_) (a' := ?_) #[true, true, true, true, true, true, true, true, true, true, true, true, true, false, true, false, true, true, true, false, false, false, false, false, false, false, false] rfl rfl (QD HT_.out (by kernel_rfl)) (fun _ _ _ h => h) (Or.inl ⟨by rfl, ?_⟩) ?_ ?_
                  rotate_left
                  ·intro w'
                   go_simp
                   with_reducible rfl
                  rotate_left
                  ·simp only [Act.put, List.setIfInBounds_toArray, List.set_cons_zero, List.set_cons_succ, Qt, Qu]
                   rfl
                  refine QL (i := 19) (N := some 67) (v := ?_) (a' := ?_) #[true, true, true, true, true, true, true, true, true, true, true, true, true, false, true, false, true, true, true, true, false, false, false, false, false, false, false] rfl rfl (QD HT_.out (by kernel_rfl)) (fun _ _ _ h => h) (Or.inl ⟨by rfl, ?_⟩) ?_ ?_
                  rotate_left
                  ·intro w'
                   go_simp
                   with_reducible rfl
                  rotate_left
                  ·simp only [Act.put, List.setIfInBounds_toArray, List.set_cons_zero, List.set_cons_succ, Qt, Qu]
                   rfl
                  refine take_ (i := 13) (N := some 61) (v := ?_) (a' := ?_) #[true, true, true, true, true, true, true, true, true, true, true, true, true, true, true, false, true, true, true, true, false, false, false, false, false, false, false] rfl rfl (Q8 HT_.out HW_.out (by kernel_rfl)) (fun _ _ _ h => h) (Or.inl ⟨by rfl, ?_⟩) hHeld ?_ ?_
                  rotate_left
                  ·rintro w' ⟨s0, s1, s2, s3, s4, s5, s6⟩
                   go_simp
                   with_reducible rfl
                  rotate_left
                  ·simp only [Act.put, List.setIfInBounds_toArray, List.set_cons_zero, List.set_cons_succ, Qt, Qu]
                   rfl
                  refine take_ (i := 15) (N := some 63) (v := ?_) (a' := ?_) #[true, true, true, true, true, true, true, true, true, true, true, true, true, true, true, true, true, true, true, true, false, false, false, false, false, false, false] rfl rfl (Q8 HT_.out HW_.out (by kernel_rfl)) (fun _ _ _ h => h) (Or.inl ⟨by rfl, ?_⟩) hHeld ?_ ?_
                  rotate_left
                  ·rintro w' ⟨s0, s1, s2, s3, s4, s5, s6⟩
                   go_simp
                   with_reducible rfl
                  rotate_left
                  ·simp only [Act.put, List.setIfInBounds_toArray, List.set_cons_zero, List.set_cons_succ, Qt, Qu]
                   rfl
                  refine take_ (i := 20) (N := some 68) (v := ?_) (a' := ?_) #[true, true, true, true, true, true, true, true, true, true, true, true, true, true, true, true, true, true, true, true, true, false, false, false, false, false, false] rfl rfl (Q8 HT_.out HW_.out (by kernel_rfl)) (fun _ _ _ h => h) (Or.inl ⟨by rfl, ?_⟩) hHeld ?_ ?_
                  rotate_left
                  ·rintro w' ⟨s0, s1, s2, s3, s4, s5, s6⟩
                   go_simp
                   with_reducible rfl
                  rotate_left
                  ·simp only [Act.put, List.setIfInBounds_toArray, List.set_cons_zero, List.set_cons_succ, Qt, Qu]
                   rfl
                  refine QL (i := 21) (N := some 69) (v := ?_) (a' := ?_) #[true, true, true, true, true, true, true, true, true, true, true, true, true, true, true, true, true, true, true, true, true, true, false, false, false, false, false] rfl rfl (QD HT_.out (by kernel_rfl)) (fun _ _ _ h => h) (Or.inl ⟨by rfl, ?_⟩) ?_ ?_
                  rotate_left
                  ·intro w'
                   go_simp
                   with_reducible rfl
                  rotate_left
                  ·simp only [Act.put, List.setIfInBounds_toArray, List.set_cons_zero, List.set_cons_succ, Qt, Qu]
                   rfl
                  refine QL (i := 22) (N := some 70) (v := ?_) (a' := ?_) #[true, true, true, true, true, true, true, true, true, true, true, true, true, true, true, true, true, true, true, true, true, true, true, false, false, false, false] rfl rfl (QD HT_.out (by kernel_rfl)) (fun _ _ _ h => h) (Or.inl ⟨by rfl, ?_⟩) ?_ ?_
                  rotate_left
                  ·intro w'
                   go_simp
                   with_reducible rfl
                  rotate_left
                  ·simp only [Act.put, List.setIfInBounds_toArray, List.set_cons_zero, List.set_cons_succ, Qt, Qu]
                   rfl
                  refine take_ (i := 23) (N := some 71) (v := ?_) (a' := ?_) #[true, true, true, true, true, true, true, true, true, true, true, true, true, true, true, true, true, true, true, true, true, true, true, true, false, false, false] rfl rfl (Q8 HT_.out HW_.out (by kernel_rfl)) (fun _ _ _ h => h) (Or.inl ⟨by rfl, ?_⟩) hHeld ?_ ?_
                  rotate_left
                  ·rintro w' ⟨s0, s1, s2, s3, s4, s5, s6⟩
                   go_simp
                   with_reducible rfl
                  rotate_left
                  ·simp only [Act.put, List.setIfInBounds_toArray, List.set_cons_zero, List.set_cons_succ, Qt, Qu]
                   rfl
                  refine QL (i := 24) (N := some 72) (v := ?_) (a' := ?_) #[true, true, true, true, true, true, true, true, true, true, true, true, true, true, true, true, true, true, true, true, true, true, true, true, true, false, false] rfl rfl (QD HT_.out (by kernel_rfl)) (fun _ _ _ h => h) (Or.inl ⟨by rfl, ?_⟩) ?_ ?_
                  rotate_left
                  ·intro w'
                   go_simp
                   with_reducible rfl
                  rotate_left
                  ·simp only [Act.put, List.setIfInBounds_toArray, List.set_cons_zero, List.set_cons_succ, Qt, Qu]
                   rfl
                  refine QL (i := 25) (N := some 73) (v := ?_) (a' := ?_) #[true, true, true, true, true, true, true, true, true, true, true, true, true, true, true, true, true, true, true, true, true, true, true, true, true, true, false] rfl rfl (QD HT_.out (by kernel_rfl)) (fun _ _ _ h => h) (Or.inl ⟨by rfl, ?_⟩) ?_ ?_
                  rotate_left
                  ·intro w'
                   go_simp
                   with_reducible rfl
                  rotate_left
                  ·simp only [Act.put, List.setIfInBounds_toArray, List.set_cons_zero, List.set_cons_succ, Qt, Qu]
                   rfl
                  refine QL (i := 26) (N := some 74) (v := ?_) (a' := ?_) #[true, true, true, true, true, true, true, true, true, true, true, true, true, true, true, true, true, true, true, true, true, true, true, true, true, true, true] rfl rfl (QD HT_.out (by kernel_rfl)) (fun _ _ _ h => h) (Or.inl ⟨by rfl, ?_⟩) ?_ ?_
                  rotate_left
                  ·intro w'
                   go_simp
                   with_reducible rfl
                  rotate_left
                  ·simp only [Act.put, List.setIfInBounds_toArray, List.set_cons_zero, List.set_cons_succ, Qt, Qu]
                   rfl
                  refine done_ (done_of HT_.out (by kernel_rfl)) ?_
                  try go_wp2
                  go_meet
                  case rel => exact ⟨_, ((((Qs t175 (rd l1 x11_1)).f0) != ((Qs t175 (rd l1 (ji44))).f1))), (by first | rfl | (simp; done) | (simp only [← hji44] <;> (first | rfl | simp)) | (simp [*]; done)), H', ⟨by have := HK1.out; have := HJ13.out; first | omega | exact Nat.le_refl _⟩, ⟨by (with_reducible repeat (first | apply Kd.QP | apply Kd.QQ | apply Kd.QT)); exact HO_10.out⟩, ⟨by (with_reducible repeat (first | apply Kd.QP | apply Kd.QQ | apply Kd.QT)); exact HO_179001.out⟩, ⟨by (with_reducible repeat (first | refine Qd ?_ _ | refine Qg ?_ | refine Qb ?_ _)); exact BK173.out⟩, ⟨by (with_reducible repeat (first | refine Qd ?_ _ | refine Qg ?_ | refine Qb ?_ _)); exact BK178.out⟩, ⟨by (with_reducible repeat (first | refine Qd ?_ _ | refine Qg ?_ | refine Qb ?_ _)); exact BK185.out⟩, ⟨by repeat (first | (with_reducible first | exact HB.out | apply Qi | apply Qa | apply Qj | refine Qk ?_ GE173.out | refine Qk ?_ GE178.out | refine Qk ?_ GE185.out) | exact HB.out)⟩⟩
                 ·rw [if_neg c48] at H
                  exact absurd H (by simp)
                ·rw [if_neg c47] at H
                 exact absurd H (by simp)
               ·rw [if_neg c46] at H
                exact absurd H (by simp)
              ·rw [if_neg c45] at H
               exact absurd H (by simp)
             ·rw [if_neg c43] at H
              have c43b0 : decide (0 < x11_1) = false := decide_eq_false c43
              clear c43
              have H' := Qf.mk H
              clear H
              try go_wp2
              have n0_ : Qf (Kd.R (Kd.int .i64) 3 ((w26.setCell ⟨gb185, 0, none⟩ (.int .i64 ((Qs t175 (rd l1 x11_1)).f0))).setCell ⟨gb185, 1, none⟩ (.int .i64 ((Qs t175 (rd l1 x11_1)).f1))) w.heap.size (fun _ => True) u10 x10_1) := ⟨by (with_reducible repeat (first | apply Kd.QP | apply Kd.QQ | apply Kd.QT)); exact Kd.Q9 (Kd.R_far (p := ⟨gb185, 1, none⟩) (Kd.R_far (p := ⟨gb185, 0, none⟩) (Kd.R_types HO_10.out BK185.out (by decide)) (fun _ hk => hk.2) (.int .i64 ((Qs t175 (rd l1 x11_1)).f0))) (fun _ hk => hk.2) (.int .i64 ((Qs t175 (rd l1 x11_1)).f1))) (fun _ hk => trivial)⟩
              have n1_ : Qf (Kd.R k92 92 ((w26.setCell ⟨gb185, 0, none⟩ (.int .i64 ((Qs t175 (rd l1 x11_1)).f0))).setCell ⟨gb185, 1, none⟩ (.int .i64 ((Qs t175 (rd l1 x11_1)).f1))) w.heap.size (fun k_ => k_ ≠ gb185) (.slice (some ad184) t175.length co11) t175) := ⟨by (with_reducible repeat (first | apply Kd.QP | apply Kd.QQ | apply Kd.QT)); exact Kd.Q9 (Kd.R_far (p := ⟨gb185, 1, none⟩) (Kd.R_far (p := ⟨gb185, 0, none⟩) (Kd.Q9 HO_179001.out (fun k_ hk => (⟨hk, hk.2⟩ : _ ∧ k_ ≠ gb185))) (fun _ hk => hk.2) (.int .i64 ((Qs t175 (rd l1 x11_1)).f0))) (fun _ hk => hk.2) (.int .i64 ((Qs t175 (rd l1 x11_1)).f1))) (fun _ hk => hk.1.2)⟩
              have n2_ : Qf (((w26.setCell ⟨gb185, 0, none⟩ (.int .i64 ((Qs t175 (rd l1 x11_1)).f0))).setCell ⟨gb185, 1, none⟩ (.int .i64 ((Qs t175 (rd l1 x11_1)).f1))).heap[gb173]? = some (.cells #[.slice A0_0 l0_0.length c0_0, .slice A0_1 l0_1.length c0_1, .slice A0_2 l0_2.length c0_2] 37 (0, 0))) := ⟨by (with_reducible repeat (first | refine Qd ?_ _ | refine Qg ?_ | refine Qb ?_ _)); refine Qv ?_ NB173_185.out _; (with_reducible repeat (first | refine Qd ?_ _ | refine Qg ?_ | refine Qb ?_ _)); refine Qv ?_ NB173_185.out _; (with_reducible repeat (first | refine Qd ?_ _ | refine Qg ?_ | refine Qb ?_ _)); exact BK173.out⟩
              have n3_ : Qf (((w26.setCell ⟨gb185, 0, none⟩ (.int .i64 ((Qs t175 (rd l1 x11_1)).f0))).setCell ⟨gb185, 1, none⟩ (.int .i64 ((Qs t175 (rd l1 x11_1)).f1))).heap[gb178]? = some (.cells #[.int .i64 t174, .slice (some ad184) t175.length co11] 51 (0, 0))) := ⟨by (with_reducible repeat (first | refine Qd ?_ _ | refine Qg ?_ | refine Qb ?_ _)); refine Qv ?_ NB178_185.out _; (with_reducible repeat (first | refine Qd ?_ _ | refine Qg ?_ | refine Qb ?_ _)); refine Qv ?_ NB178_185.out _; (with_reducible repeat (first | refine Qd ?_ _ | refine Qg ?_ | refine Qb ?_ _)); exact BK178.out⟩
              have n4_ : Qf (((w26.setCell ⟨gb185, 0, none⟩ (.int .i64 ((Qs t175 (rd l1 x11_1)).f0))).setCell ⟨gb185, 1, none⟩ (.int .i64 ((Qs t175 (rd l1 x11_1)).f1))).heap[gb185]? = some (.cells #[.int .i64 ((Qs t175 (rd l1 x11_1)).f0), .int .i64 ((Qs t175 (rd l1 x11_1)).f1)] 92 (0, 0))) := ⟨by (with_reducible repeat (first | refine Qd ?_ _ | refine Qg ?_ | refine Qb ?_ _)); refine Qy (cs := #[.int .i64 ((Qs t175 (rd l1 x11_1)).f0), .int .i64 0]) ?_ 1 _ rfl; (with_reducible repeat (first | refine Qd ?_ _ | refine Qg ?_ | refine Qb ?_ _)); refine Qy (cs := #[.int .i64 0, .int .i64 0]) ?_ 0 _ rfl; (with_reducible repeat (first | refine Qd ?_ _ | refine Qg ?_ | refine Qb ?_ _)); exact BK185.out⟩
              have n5_ : Qf (Below w.heap.size w ((w26.setCell ⟨gb185, 0, none⟩ (.int .i64 ((Qs t175 (rd l1 x11_1)).f0))).setCell ⟨gb185, 1, none⟩ (.int .i64 ((Qs t175 (rd l1 x11_1)).f1)))) := ⟨by repeat (first | (with_reducible first | exact HB.out | apply Qi | apply Qa | apply Qj | refine Qk ?_ GE173.out | refine Qk ?_ GE178.out | refine Qk ?_ GE185.out) | exact HB.out)⟩
              (try clear HO_10)
              (try clear HO_179001)
              (try clear BK173)
              (try clear BK178)
              (try clear BK185)
              (try clear HB)
              generalize ((w26.setCell ⟨gb185, 0, none⟩ (.int .i64 ((Qs t175 (rd l1 x11_1)).f0))).setCell ⟨gb185, 1, none⟩ (.int .i64 ((Qs t175 (rd l1 x11_1)).f1))) = w51 at n0_ n1_ n2_ n3_ n4_ n5_ ⊢
              have HO_10 := n0_
              have HO_179001 := n1_
              have BK173 := n2_
              have BK178 := n3_
              have BK185 := n4_
              have HB := n5_
              clear n0_ n1_ n2_ n3_ n4_ n5_
              have n0_ := Qf.mk (Kd.QT HO_10.out)
              have n1_ := Qf.mk (Kd.QT HO_179001.out)
              have n2_ := Qf.mk (Qg BK173.out)
              have n3_ := Qf.mk (Qg BK178.out)
              have n4_ := Qf.mk (Qg BK185.out)
              have n5_ := Qf.mk (Qj HB.out)
              clear HO_10
              clear HO_179001
              clear BK173
              clear BK178
              clear BK185
              clear HB
              have HO_10 := n0_
              have HO_179001 := n1_
              have BK173 := n2_
              have BK178 := n3_
              have BK185 := n4_
              have HB := n5_
              clear n0_ n1_ n2_ n3_ n4_ n5_
              refine start_ (n := 27) (S := fun w' => True) (ds := []) #[false, false, false, false, false, false, false, false, false, false, false, false, false, false, false, false, false, false, false, false, false, false, false, false, false, false, false] (by kernel_rfl) rfl rfl trivial (fun hHeld => ?_); refine with_tabW Ql.tab10 Ql.bits10 (fun HT_ HW_ => ?_)
              generalize w51.drew = w52 at HO_10 HO_179001 BK173 BK178 BK185 HB hHeld ⊢
              refine QL (i := 0) (N := some 48) (v := ?_) (a' := ?_) #[true, false, false, false, false, false, false, false, false, false, false, false, false, false, false, false, false, false, false, false, false, false, false, false, false, false, false] rfl rfl (QD HT_.out (by kernel_rfl)) (fun _ _ _ h => h) (Or.inl ⟨by rfl, ?_⟩) ?_ ?_
              rotate_left
              ·intro w'
               go_simp
               with_reducible rfl
              rotate_left
              ·simp only [Act.put, List.setIfInBounds_toArray, List.set_cons_zero, List.set_cons_succ, Qt, Qu]
               rfl
              refine QL (i := 1) (N := some 49) (v := ?_) (a' := ?_) #[true, true, false, false, false, false, false, false, false, false, false, false, false, false, false, false, false, false, false, false, false, false, false, false, false, false, false] rfl rfl (QD HT_.out (by kernel_rfl)) (fun _ _ _ h => h) (Or.inl ⟨by rfl, ?_⟩) ?_ ?_
              rotate_left
              ·intro w'
               go_simp
               with_reducible rfl
              rotate_left
              ·simp only [Act.put, List.setIfInBounds_toArray, List.set_cons_zero, List.set_cons_succ, Qt, Qu]
               rfl
              refine QL (i := 2) (N := some 50) (v := ?_) (a' := ?_) #[true, true, true, false, false, false, false, false, false, false, false, false, false, false, false, false, false, false, false, false, false, false, false, false, false, false, false] rfl rfl (QD HT_.out (by kernel_rfl)) (fun _ _ _ h => h) (Or.inl ⟨by rfl, ?_⟩) ?_ ?_
              rotate_left
              ·intro w'
               go_simp
               with_reducible rfl
              rotate_left
              ·simp only [Act.put, List.setIfInBounds_toArray, List.set_cons_zero, List.set_cons_succ, Qt, Qu]
               rfl
              refine QL (i := 3) (N := some 51) (v := undef) (a' := ?_) #[true, true, true, true, false, false, false, false, false, false, false, false, false, false, false, false, false, false, false, false, false, false, false, false, false, false, false] rfl rfl (QD HT_.out (by kernel_rfl)) (fun _ _ _ h => h) (Or.inr ⟨by rfl, rfl⟩) ?_ ?_
              rotate_left
              ·simp only [Act.put, List.setIfInBounds_toArray, List.set_cons_zero, List.set_cons_succ, Qt, Qu]
               rfl
              refine QL (i := 4) (N := some 52) (v := undef) (a' := ?_) #[true, true, true, true, true, false, false, false, false, false, false, false, false, false, false, false, false, false, false, false, false, false, false, false, false, false, false] rfl rfl (QD HT_.out (by kernel_rfl)) (fun _ _ _ h => h) (Or.inr ⟨by rfl, rfl⟩) ?_ ?_
              rotate_left
              ·simp only [Act.put, List.setIfInBounds_toArray, List.set_cons_zero, List.set_cons_succ, Qt, Qu]
               rfl
              refine QL (i := 5) (N := some 53) (v := undef) (a' := ?_) #[true, true, true, true, true, true, false, false, false, false, false, false, false, false, false, false, false, false, false, false, false, false, false, false, false, false, false] rfl rfl (QD HT_.out (by kernel_rfl)) (fun _ _ _ h => h) (Or.inr ⟨by rfl, rfl⟩) ?_ ?_
              rotate_left
              ·simp only [Act.put, List.setIfInBounds_toArray, List.set_cons_zero, List.set_cons_succ, Qt, Qu]
               rfl
              refine QL (i := 6) (N := some 54) (v := undef) (a' := ?_) #[true, true, true, true, true, true, true, false, false, false, false, false, false, false, false, false, false, false, false, false, false, false, false, false, false, false, false] rfl rfl (QD HT_.out (by kernel_rfl)) (fun _ _ _ h => h) (Or.inr ⟨by rfl, rfl⟩) ?_ ?_
              rotate_left
              ·simp only [Act.put, List.setIfInBounds_toArray, List.set_cons_zero, List.set_cons_succ, Qt, Qu]
               rfl
              refine QL (i := 7) (N := some 55) (v := ?_) (a' := ?_) #[true, true, true, true, true, true, true, true, false, false, false, false, false, false, false, false, false, false, false, false, false, false, false, false, false, false, false] rfl rfl (QD HT_.out (by kernel_rfl)) (fun _ _ _ h => h) (Or.inl ⟨by rfl, ?_⟩) ?_ ?_
              rotate_left
              ·intro w'
               go_simp
               with_reducible rfl
              rotate_left
              ·simp only [Act.put, List.setIfInBounds_toArray, List.set_cons_zero, List.set_cons_succ, Qt, Qu]
               rfl
              refine QL (i := 8) (N := some 56) (v := ?_) (a' := ?_) #[true, true, true, true, true, true, true, true, true, false, false, false, false, false, false, false, false, false, false, false, false, false, false, false, false, false, false] rfl rfl (QD HT_.out (by kernel_rfl)) (fun _ _ _ h => h) (Or.inl ⟨by rfl, ?_⟩) ?_ ?_
              rotate_left
              ·intro w'
               go_simp
               with_reducible rfl
              rotate_left
              ·simp only [Act.put, List.setIfInBounds_toArray, List.set_cons_zero, List.set_cons_succ, Qt, Qu]
               rfl
              refine QL (i := 9) (N := some 57) (v := ?_) (a' := ?_) #[true, true, true, true, true, true, true, true, true, true, false, false, false, false, false, false, false, false, false, false, false, false, false, false, false, false, false] rfl rfl (QD HT_.out (by kernel_rfl)) (fun _ _ _ h => h) (Or.inl ⟨by rfl, ?_⟩) ?_ ?_
              rotate_left
              ·intro w'
               go_simp
               with_reducible rfl
              rotate_left
              ·simp only [Act.put, List.setIfInBounds_toArray, List.set_cons_zero, List.set_cons_succ, Qt, Qu]
               rfl
              refine QL (i := 10) (N := some 58) (v := ?_) (a' := ?_) #[true, true, true, true, true, true, true, true, true, true, true, false, false, false, false, false, false, false, false, false, false, false, false, false, false, false, false] rfl rfl (QD HT_.out (by kernel_rfl)) (fun _ _ _ h => h) (Or.inl ⟨by rfl, ?_⟩) ?_ ?_
              rotate_left
              ·intro w'
               go_simp
               with_reducible rfl
              rotate_left
              ·simp only [Act.put, List.setIfInBounds_toArray, List.set_cons_zero, List.set_cons_succ, Qt, Qu]
               rfl
              refine QL (i := 11) (N := some 59) (v := ?_) (a' := ?_) #[true, true, true, true, true, true, true, true, true, true, true, true, false, false, false, false, false, false, false, false, false, false, false, false, false, false, false] rfl rfl (QD HT_.out (by kernel_rfl)) (fun _ _ _ h => h) (Or.inl ⟨by rfl, ?_⟩) ?_ ?_
              rotate_left
              ·intro w'
               go_simp
               with_reducible rfl
              rotate_left
              ·simp only [Act.put, List.setIfInBounds_toArray, List.set_cons_zero, List.set_cons_succ, Qt, Qu]
               rfl
              refine QL (i := 12) (N := some 60) (v := undef) (a' := ?_) #[true, true, true, true, true, true, true, true, true, true, true, true, true, false, false, false, false, false, false, false, false, false, false, false, false, false, false] rfl rfl (QD HT_.out (by kernel_rfl)) (fun _ _ _ h => h) (Or.inr ⟨by rfl, rfl⟩) ?_ ?_
              rotate_left
              ·simp only [Act.put, List.setIfInBounds_toArray, List.set_cons_zero, List.set_cons_succ, Qt, Qu]
               rfl
              refine QL (i := 13) (N := some 61) (v := undef) (a' := ?_) #[true, true, true, true, true, true, true, true, true, true, true, true, true, true, false, false, false, false, false, false, false, false, false, false, false, false, false] rfl rfl (QD HT_.out (by kernel_rfl)) (fun _ _ _ h => h) (Or.inr ⟨by rfl, rfl⟩) ?_ ?_
              rotate_left
              ·simp only [Act.put, List.setIfInBounds_toArray, List.set_cons_zero, List.set_cons_succ, Qt, Qu]
               rfl
              refine QL (i := 14) (N := some 62) (v := undef) (a' := ?_) #[true, true, true, true, true, true, true, true, true, true, true, true, true, true, true, false, false, false, false, false, false, false, false, false, false, false, false] rfl rfl (QD HT_.out (by kernel_rfl)) (fun _ _ _ h => h) (Or.inr ⟨by rfl, rfl⟩) ?_ ?_
              rotate_left
              ·simp only [Act.put, List.setIfInBounds_toArray, List.set_cons_zero, List.set_cons_succ, Qt, Qu]
               rfl
              refine QL (i := 15) (N := some 63) (v := undef) (a' := ?_) #[true, true, true, true, true, true, true, true, true, true, true, true, true, true, true, true, false, false, false, false, false, false, false, false, false, false, false] rfl rfl (QD HT_.out (by kernel_rfl)) (fun _ _ _ h => h) (Or.inr ⟨by rfl, rfl⟩) ?_ ?_
              rotate_left
              ·simp only [Act.put, List.setIfInBounds_toArray, List.set_cons_zero, List.set_cons_succ, Qt, Qu]
               rfl
              refine QL (i := 16) (N := some 64) (v := undef) (a' := ?_) #[true, true, true, true, true, true, true, true, true, true, true, true, true, true, true, true, true, false, false, false, false, false, false, false, false, false, false] rfl rfl (QD HT_.out (by kernel_rfl)) (fun _ _ _ h => h) (Or.inr ⟨by rfl, rfl⟩) ?_ ?_
              rotate_left
              ·simp only [Act.put, List.setIfInBounds_toArray, List.set_cons_zero, List.set_cons_succ, Qt, Qu]
               rfl
              refine QL (i := 17) (N := some 65) (v := undef) (a' := ?_) #[true, true, true, true, true, true, true, true, true, true, true, true, true, true, true, true, true, true, false, false, false, false, false, false, false, false, false] rfl rfl (QD HT_.out (by kernel_rfl)) (fun _ _ _ h => h) (Or.inr ⟨by rfl, rfl⟩) ?_ ?_
              rotate_left
              ·simp only [Act.put, List.setIfInBounds_toArray, List.set_cons_zero, List.set_cons_succ, Qt, Qu]
               rfl
              refine QL (i := 18) (N := some 66) (v := undef) (a' := ?_) #[true, true, true, true, true, true, true, true, true, true, true, true, true, true, true, true, true, true, true, false, false, false, false, false, false, false, false] rfl rfl (QD HT_.out (by kernel_rfl)) (fun _ _ _ h => h) (Or.inr ⟨by rfl, rfl⟩) ?_ ?_
              rotate_left
              ·simp only [Act.put, List.setIfInBounds_toArray, List.set_cons_zero, List.set_cons_succ, Qt, Qu]
               rfl
              refine QL (i := 19) (N := some 67) (v := undef) (a' := ?_) #[true, true, true, true, true, true, true, true, true, true, true, true, true, true, true, true, true, true, true, true, false, false, false, false, false, false, false] rfl rfl (QD HT_.out (by kernel_rfl)) (fun _ _ _ h => h) (Or.inr ⟨by rfl, rfl⟩) ?_ ?_
              rotate_left
              ·simp only [Act.put, List.setIfInBounds_toArray, List.set_cons_zero, List.set_cons_succ, Qt, Qu]
               rfl
              refine QL (i := 20) (N := some 68) (v := undef) (a' := ?_) #[true, true, true, true, true, true, true, true, true, true, true, true, true, true, true, true, true, true, true, true, true, false, false, false, false, false, false] rfl rfl (QD HT_.out (by kernel_rfl)) (fun _ _ _ h => h) (Or.inr ⟨by rfl, rfl⟩) ?_ ?_
              rotate_left
              ·simp only [Act.put, List.setIfInBounds_toArray, List.set_cons_zero, List.set_cons_succ, Qt, Qu]
               rfl
              refine QL (i := 21) (N := some 69) (v := undef) (a' := ?_) #[true, true, true, true, true, true, true, true, true, true, true, true, true, true, true, true, true, true, true, true, true, true, false, false, false, false, false] rfl rfl (QD HT_.out (by kernel_rfl)) (fun _ _ _ h => h) (Or.inr ⟨by rfl, rfl⟩) ?_ ?_
              rotate_left
              ·simp only [Act.put, List.setIfInBounds_toArray, List.set_cons_zero, List.set_cons_succ, Qt, Qu]
               rfl
              refine QL (i := 22) (N := some 70) (v := undef) (a' := ?_) #[true, true, true, true, true, true, true, true, true, true, true, true, true, true, true, true, true, true, true, true, true, true, true, false, false, false, false] rfl rfl (QD HT_.out (by kernel_rfl)) (fun _ _ _ h => h) (Or.inr ⟨by rfl, rfl⟩) ?_ ?_
              rotate_left
              ·simp only [Act.put, List.setIfInBounds_toArray, List.set_cons_zero, List.set_cons_succ, Qt, Qu]
               rfl
              refine QL (i := 23) (N := some 71) (v := undef) (a' := ?_) #[true, true, true, true, true, true, true, true, true, true, true, true, true, true, true, true, true, true, true, true, true, true, true, true, false, false, false] rfl rfl (QD HT_.out (by kernel_rfl)) (fun _ _ _ h => h) (Or.inr ⟨by rfl, rfl⟩) ?_ ?_
              rotate_left
              ·simp only [Act.put, List.setIfInBounds_toArray, List.set_cons_zero, List.set_cons_succ, Qt, Qu]
               rfl
              refine QL (i := 24) (N := some 72) (v := undef) (a' := ?_) #[true, true, true, true, true, true, true, true, true, true, true, true, true, true, true, true, true, true, true, true, true, true, true, true, true, false, false] rfl rfl (QD HT_.out (by kernel_rfl)) (fun _ _ _ h => h) (Or.inr ⟨by rfl, rfl⟩) ?_ ?_
              rotate_left
              ·simp only [Act.put, List.setIfInBounds_toArray, List.set_cons_zero, List.set_cons_succ, Qt, Qu]
               rfl
              refine QL (i := 25) (N := some 73) (v := ?_) (a' := ?_) #[true, true, true, true, true, true, true, true, true, true, true, true, true, true, true, true, true, true, true, true, true, true, true, true, true, true, false] rfl rfl (QD HT_.out (by kernel_rfl)) (fun _ _ _ h => h) (Or.inl ⟨by rfl, ?_⟩) ?_ ?_
              rotate_left
              ·intro w'
               go_simp
               with_reducible rfl
              rotate_left
              ·simp only [Act.put, List.setIfInBounds_toArray, List.set_cons_zero, List.set_cons_succ, Qt, Qu]
               rfl
              refine QL (i := 26) (N := some 74) (v := ?_) (a' := ?_) #[true, true, true, true, true, true, true, true, true, true, true, true, true, true, true, true, true, true, true, true, true, true, true, true, true, true, true] rfl rfl (QD HT_.out (by kernel_rfl)) (fun _ _ _ h => h) (Or.inl ⟨by rfl, ?_⟩) ?_ ?_
              rotate_left
              ·intro w'
               go_simp
               with_reducible rfl
              rotate_left
              ·simp only [Act.put, List.setIfInBounds_toArray, List.set_cons_zero, List.set_cons_succ, Qt, Qu]
               rfl
              refine done_ (done_of HT_.out (by kernel_rfl)) ?_
              try go_wp2
              go_meet
              case rel => exact ⟨_, (false), (by first | rfl | (simp; done) | (simp [*]; done)), H', ⟨by have := HK1.out; have := HJ13.out; first | omega | exact Nat.le_refl _⟩, ⟨by (with_reducible repeat (first | apply Kd.QP | apply Kd.QQ | apply Kd.QT)); exact HO_10.out⟩, ⟨by (with_reducible repeat (first | apply Kd.QP | apply Kd.QQ | apply Kd.QT)); exact HO_179001.out⟩, ⟨by (with_reducible repeat (first | refine Qd ?_ _ | refine Qg ?_ | refine Qb ?_ _)); exact BK173.out⟩, ⟨by (with_reducible repeat (first | refine Qd ?_ _ | refine Qg ?_ | refine Qb ?_ _)); exact BK178.out⟩, ⟨by (with_reducible repeat (first | refine Qd ?_ _ | refine Qg ?_ | refine Qb ?_ _)); exact BK185.out⟩, ⟨by repeat (first | (with_reducible first | exact HB.out | apply Qi | apply Qa | apply Qj | refine Qk ?_ GE173.out | refine Qk ?_ GE178.out | refine Qk ?_ GE185.out) | exact HB.out)⟩⟩
           case rest =>
            clear HC24
            try clear p1
            try clear q1
            try clear hx1
            try clear c2
            try clear p2
            try clear c4
            try clear p6
            try clear p18
            try clear q18
            try clear hx18
            try clear c29
            try clear c29b0
            try clear c29b1
            try clear c43
            try clear c43b0
            try clear c45
            try clear c45b0
            try clear c46
            try clear c46b0
            try clear c47
            try clear c47b0
            try clear c48
            try clear c48b0
            try clear hx188_0
            try clear hx189_0
            try clear hx189_1
            try clear p188
            try clear p189
            try clear q188
            try clear q189
            obtain ⟨kq, x74_23, rfl, HA, HJ23, HO_10, HO_179001, BK173, BK178, BK185, HB⟩ := hcut
            cases kq with
            | zero => exact absurd HA.out (by simp [Ql.j2])
            | succ kj23 =>
             have H := HA.out
             clear HA
             simp only [Ql.j2] at H
             by_cases c53 : x74_23 = true
             ·subst c53
              have H1 : (some (([] : List Int), false)) = some (r1, r2) := by rw [if_pos rfl] at H; exact H
              clear H
              have H := H1
              clear H1
              simp only [Option.some.injEq, Prod.mk.injEq] at H
              obtain ⟨rfl, rfl⟩ := H
              go_wp2
              go_ret2
              exact ⟨_, by first | rfl | (simp [Qw, Qx] <;> rfl) | (simp [*, Qw, Qx] <;> rfl), by first | exact Kd.R_nil _ _ _ _ _ | exact Kd.N_nil _ _ _ _ _ | exact Kd.V_nil _ _ _ _ _ | exact Kd.Q_nil _ _ _ _ _ | exact Kd.S_nil _ _ _ _ _, by repeat (first | (with_reducible first | exact HB.out | apply Qi | apply Qa | apply Qj | refine Qk ?_ GE173.out | refine Qk ?_ GE178.out | refine Qk ?_ GE185.out) | exact HB.out)⟩
             ·replace c53 := Bool.eq_false_iff.mpr c53
              subst c53
              have H1 : (if ((Qs t175 (rd l1 x11_1)).f1) < (l0_2.length : Int) then (if x10_1.length < 17592186044416 then (Ql.l0 kj23 l1 (l0_2.length : Int) (x10_1 ++ [((Qs t175 (rd l1 x11_1)).f1)]) (wrap64 (x11_1 + 1)) t174 t175) else (none)) else (Ql.l0 kj23 l1 (l0_2.length : Int) x10_1 (wrap64 (x11_1 + 1)) t174 t175)) = some (r1, r2) := by rw [if_neg (show ¬ (false = true) by decide)] at H; exact H
              clear H
              have H := H1
              clear H1
              by_cases c54 : ((Qs t175 (rd l1 x11_1)).f1) < (l0_2.length : Int)
              ·rw [if_pos c54] at H
               have c54b0 : decide (((Qs t175 (rd l1 x11_1)).f1) < (l0_2.length : Int)) = true := decide_eq_true c54
               clear c54
               by_cases c55 : x10_1.length < 17592186044416
               ·rw [if_pos c55] at H
                have LMc55 := Qf.mk c55
                clear c55
                obtain ⟨y190, hy190⟩ : ∃ y_ : List Int, y_ = (x10_1 ++ [((Qs t175 (rd l1 x11_1)).f1)]) := ⟨_, rfl⟩
                replace H : (Ql.l0 kj23 l1 (l0_2.length : Int) y190 (wrap64 (x11_1 + 1)) t174 t175) = some (r1, r2) := by first | (rw [hy190]; with_reducible exact H) | (have H2_ := (Option.bind_some _ _).symm.trans H; rw [hy190]; with_reducible exact H2_) | (have H2_ := (Option.bind_some _ _).symm.trans H; with_reducible exact H2_) | with_reducible exact H | (rw [hy190]; exact H) | exact H
                have Ny190 := Qf.mk hy190
                clear hy190
                have H' := Qf.mk H
                clear H
                have hnb56 := NB185_173.out
                have hnc56 := NB173_185.out
                have hnb57 := NB185_178.out
                have hnc57 := NB178_185.out
                have hcz58_0 : wc.cell? ⟨gb185, 0, none⟩ = some (.int .i64 ((Qs t175 (rd l1 x11_1)).f0)) := (Qe BK185.out 0).trans rfl
                have hcz58_1 : wc.cell? ⟨gb185, 1, none⟩ = some (.int .i64 ((Qs t175 (rd l1 x11_1)).f1)) := (Qe BK185.out 1).trans rfl
                have hfz58_0 := Qc BK185.out 0
                have hfz58_1 := Qc BK185.out 1
                go_wp2_with (first | ((with_reducible refine gate_builtin (b := .append) (xs := #[.tmp 79, .tmp 82]) rfl ?_); (try (refine Q5 (by rfl) ?_; dsimp only)); at_builtin; refine Kd.R_append (Kd.int .i64) (w0 := w) w.heap.size rfl (.tmp 79) (.tmp 82) 33 3 (.int .i64 0) 8 rfl Try.underlying33 info3 rfl (by decide) (by omega) u10 x10_1 ((Qs t175 (rd l1 x11_1)).f1) [.int .i64 ((Qs t175 (rd l1 x11_1)).f1)] (fun _ => True) (fun _ => False) rfl rfl ?aP (fun _ hk => hk.elim) ?aF ?aO ?aB ?aS ?aL ?_; (case aP => exact rfl); (case aB => exact (by repeat (first | (with_reducible first | exact HB.out | apply Qi | apply Qa | apply Qj | refine Qk ?_ GE173.out | refine Qk ?_ GE178.out | refine Qk ?_ GE185.out) | exact HB.out))); (case aF => exact (fun _ _ => trivial)); (case aO => exact (by (with_reducible repeat (first | apply Kd.QP | apply Kd.QQ | apply Kd.QT)); exact HO_10.out)); (case aS => exact (Qp (by repeat (first | (with_reducible first | exact HB.out | apply Qi | apply Qa | apply Qj | refine Qk ?_ GE173.out | refine Qk ?_ GE178.out | refine Qk ?_ GE185.out) | exact HB.out)))); (case aL => have := LMc55.out; omega); intro v191 w59 ho hb hg hat; rw [← Ny190.out] at ho; have n0_ := Qf.mk (Kd.R_over' (by (with_reducible repeat (first | apply Kd.QP | apply Kd.QQ | apply Kd.QT)); exact HO_179001.out) (Kd.R_typed (by (with_reducible repeat (first | apply Kd.QP | apply Kd.QQ | apply Kd.QT)); exact HO_10.out)) (by decide) hg); have n1_ := Qf.mk (blk_grown (g := gb173) (o := .cells #[.slice A0_0 l0_0.length c0_0, .slice A0_1 l0_1.length c0_1, .slice A0_2 l0_2.length c0_2] 37 (0, 0)) (by (with_reducible repeat (first | refine Qd ?_ _ | refine Qg ?_ | refine Qb ?_ _)); exact BK173.out) hg (Kd.R_ne HO_10.out BK173.out (by decide))); have n2_ := Qf.mk (blk_grown (g := gb178) (o := .cells #[.int .i64 t174, .slice (some ad184) t175.length co11] 51 (0, 0)) (by (with_reducible repeat (first | refine Qd ?_ _ | refine Qg ?_ | refine Qb ?_ _)); exact BK178.out) hg (Kd.R_ne HO_10.out BK178.out (by decide))); have n3_ := Qf.mk (blk_grown (g := gb185) (o := .cells #[.int .i64 ((Qs t175 (rd l1 x11_1)).f0), .int .i64 ((Qs t175 (rd l1 x11_1)).f1)] 92 (0, 0)) (by (with_reducible repeat (first | refine Qd ?_ _ | refine Qg ?_ | refine Qb ?_ _)); exact BK185.out) hg (Kd.R_ne HO_10.out BK185.out (by decide))); have n4_ := Qf.mk (hb); have n5_ := Qf.mk (ho); clear HO_179001; clear BK173; clear BK178; clear BK185; clear HB; clear HO_10; have HO_179001 := n0_; have BK173 := n1_; have BK178 := n2_; have BK185 := n3_; have HB := n4_; have HO192 := n5_; clear n0_ n1_ n2_ n3_ n4_ n5_; clear ho hb hg hat))
                go_roundg kj23
                case measure => have := HK1.out; have := HJ13.out; have := HJ23.out; omega
                case rel => exact ⟨(y190), (wrap64 (x11_1 + 1)), (by first | rfl | (simp; done) | (simp [*]; done)), H', ⟨by have := HK1.out; have := HJ13.out; have := HJ23.out; omega⟩, ⟨by (with_reducible repeat (first | apply Kd.QP | apply Kd.QQ | apply Kd.QT)); exact HO192.out⟩, ⟨by (with_reducible repeat (first | apply Kd.QP | apply Kd.QQ | apply Kd.QT)); exact Kd.Q9 HO_179001.out (fun _ hk => trivial)⟩, ⟨by (with_reducible repeat (first | refine Qd ?_ _ | refine Qg ?_ | refine Qb ?_ _)); exact BK173.out⟩, ⟨by (with_reducible repeat (first | refine Qd ?_ _ | refine Qg ?_ | refine Qb ?_ _)); exact BK178.out⟩, ⟨by repeat (first | (with_reducible first | exact HB.out | apply Qi | apply Qa | apply Qj | refine Qk ?_ GE173.out | refine Qk ?_ GE178.out | refine Qk ?_ GE185.out) | exact HB.out)⟩⟩
               ·rw [if_neg c55] at H
                exact absurd H (by simp)
              ·rw [if_neg c54] at H
               have c54b0 : decide (((Qs t175 (rd l1 x11_1)).f1) < (l0_2.length : Int)) = false := decide_eq_false c54
               clear c54
               have H' := Qf.mk H
               clear H
               have hnb60 := NB185_173.out
               have hnc60 := NB173_185.out
               have hnb61 := NB185_178.out
               have hnc61 := NB178_185.out
               have hcz62_0 : wc.cell? ⟨gb185, 0, none⟩ = some (.int .i64 ((Qs t175 (rd l1 x11_1)).f0)) := (Qe BK185.out 0).trans rfl
               have hcz62_1 : wc.cell? ⟨gb185, 1, none⟩ = some (.int .i64 ((Qs t175 (rd l1 x11_1)).f1)) := (Qe BK185.out 1).trans rfl
               have hfz62_0 := Qc BK185.out 0
               have hfz62_1 := Qc BK185.out 1
               go_wp2
               go_roundg kj23
               case measure => have := HK1.out; have := HJ13.out; have := HJ23.out; omega
               case rel => exact ⟨(x10_1), (wrap64 (x11_1 + 1)), (by first | rfl | (simp; done) | (simp [*]; done)), H', ⟨by have := HK1.out; have := HJ13.out; have := HJ23.out; omega⟩, ⟨by (with_reducible repeat (first | apply Kd.QP | apply Kd.QQ | apply Kd.QT)); exact HO_10.out⟩, ⟨by (with_reducible repeat (first | apply Kd.QP | apply Kd.QQ | apply Kd.QT)); exact Kd.Q9 HO_179001.out (fun _ hk => trivial)⟩, ⟨by (with_reducible repeat (first | refine Qd ?_ _ | refine Qg ?_ | refine Qb ?_ _)); exact BK173.out⟩, ⟨by (with_reducible repeat (first | refine Qd ?_ _ | refine Qg ?_ | refine Qb ?_ _)); exact BK178.out⟩, ⟨by repeat (first | (with_reducible first | exact HB.out | apply Qi | apply Qa | apply Qj | refine Qk ?_ GE173.out | refine Qk ?_ GE178.out | refine Qk ?_ GE185.out) | exact HB.out)⟩⟩
          ·rw [if_neg c23] at H
           exact absurd H (by simp)
         ·rw [if_neg c22] at H
          exact absurd H (by simp)
        ·rw [if_neg c21] at H
         exact absurd H (by simp)
       ·rw [if_neg c20] at H
        exact absurd H (by simp)
   ·rw [if_neg c13] at H
    have c13b0 : decide (x11_1 < (l1.length : Int)) = false := decide_eq_false c13
    clear c13
    by_cases c63 : (l1.length : Int) = 0
    ·rw [if_pos c63] at H
     have c63b0 : ((l1.length : Int) == 0) = true := beq_iff_eq.mpr c63
     have c63b1 : ((l1.length : Int) != 0) = false := bne_eq_false_iff_eq.mpr c63
     clear c63
     simp only [Option.some.injEq, Prod.mk.injEq] at H
     obtain ⟨rfl, rfl⟩ := H
     try go_wp2
     have n0_ := Qf.mk (Kd.QT HO_10.out)
     have n1_ := Qf.mk (Kd.QT HO_179001.out)
     have n2_ := Qf.mk (Qg BK173.out)
     have n3_ := Qf.mk (Qg BK178.out)
     have n4_ := Qf.mk (Qj HB.out)
     clear HO_10
     clear HO_179001
     clear BK173
     clear BK178
     clear HB
     have HO_10 := n0_
     have HO_179001 := n1_
     have BK173 := n2_
     have BK178 := n3_
     have HB := n4_
     clear n0_ n1_ n2_ n3_ n4_
     refine start_ (n := 18) (S := fun w' => True) (ds := []) #[false, false, false, false, false, false, false, false, false, false, false, false, false, false, false, false, false, false] (by kernel_rfl) rfl rfl trivial (fun hHeld => ?_); refine with_tabW Ql.tab14 Ql.bits14 (fun HT_ HW_ => ?_)
     generalize wr.drew = w64 at HO_10 HO_179001 BK173 BK178 HB hHeld ⊢
     refine QL (i := 0) (N := some 84) (v := ?_) (a' := ?_) #[true, false, false, false, false, false, false, false, false, false, false, false, false, false, false, false, false, false] rfl rfl (QD HT_.out (by kernel_rfl)) (fun _ _ _ h => h) (Or.inl ⟨by rfl, ?_⟩) ?_ ?_
     rotate_left
     ·intro w'
      go_simp
      with_reducible rfl
     rotate_left
     ·simp only [Act.put, List.setIfInBounds_toArray, List.set_cons_zero, List.set_cons_succ, Qt, Qu]
      rfl
     refine QL (i := 1) (N := some 85) (v := ?_) (a' := ?_) #[true, true, false, false, false, false, false, false, false, false, false, false, false, false, false, false, false, false] rfl rfl (QD HT_.out (by kernel_rfl)) (fun _ _ _ h => h) (Or.inl ⟨by rfl, ?_⟩) ?_ ?_
     rotate_left
     ·intro w'
      go_simp
      with_reducible rfl
     rotate_left
     ·simp only [Act.put, List.setIfInBounds_toArray, List.set_cons_zero, List.set_cons_succ, Qt, Qu]
      rfl
     refine QL (i := 2) (N := some 86) (v := ?_) (a' := ?_) #[true, true, true, false, false, false, false, false, false, false, false, false, false, false, false, false, false, false] rfl rfl (QD HT_.out (by kernel_rfl)) (fun _ _ _ h => h) (Or.inl ⟨by rfl, ?_⟩) ?_ ?_
     rotate_left
     ·intro w'
      go_simp
      with_reducible rfl
     rotate_left
     ·simp only [Act.put, List.setIfInBounds_toArray, List.set_cons_zero, List.set_cons_succ, Qt, Qu]
      rfl
     refine QL (i := 3) (N := some 87) (v := ?_) (a' := ?_) #[true, true, true, true, false, false, false, false, false, false, false, false, false, false, false, false, false, false] rfl rfl (QD HT_.out (by kernel_rfl)) (fun _ _ _ h => h) (Or.inl ⟨by rfl, ?_⟩) ?_ ?_
     rotate_left
     ·intro w'
      go_simp
      with_reducible rfl
     rotate_left
     ·simp only [Act.put, List.setIfInBounds_toArray, List.set_cons_zero, List.set_cons_succ, Qt, Qu]
      rfl
     refine QL (i := 4) (N := some 88) (v := undef) (a' := ?_) #[true, true, true, true, true, false, false, false, false, false, false, false, false, false, false, false, false, false] rfl rfl (QD HT_.out (by kernel_rfl)) (fun _ _ _ h => h) (Or.inr ⟨by rfl, rfl⟩) ?_ ?_
     rotate_left
     ·simp only [Act.put, List.setIfInBounds_toArray, List.set_cons_zero, List.set_cons_succ, Qt, Qu]
      rfl
     refine QL (i := 5) (N := some 89) (v := undef) (a' := ?_) #[true, true, true, true, true, true, false, false, false, false, false, false, false, false, false, false, false, false] rfl rfl (QD HT_.out (by kernel_rfl)) (fun _ _ _ h => h) (Or.inr ⟨by rfl, rfl⟩) ?_ ?_
     rotate_left
     ·simp only [Act.put, List.setIfInBounds_toArray, List.set_cons_zero, List.set_cons_succ, Qt, Qu]
      rfl
     refine QL (i := 6) (N := some 90) (v := undef) (a' := ?_) #[true, true, true, true, true, true, true, false, false, false, false, false, false, false, false, false, false, false] rfl rfl (QD HT_.out (by kernel_rfl)) (fun _ _ _ h => h) (Or.inr ⟨by rfl, rfl⟩) ?_ ?_
     rotate_left
     ·simp only [Act.put, List.setIfInBounds_toArray, List.set_cons_zero, List.set_cons_succ, Qt, Qu]
      rfl
     refine QL (i := 7) (N := some 91) (v := undef) (a' := ?_) #[true, true, true, true, true, true, true, true, false, false, false, false, false, false, false, false, false, false] rfl rfl (QD HT_.out (by kernel_rfl)) (fun _ _ _ h => h) (Or.inr ⟨by rfl, rfl⟩) ?_ ?_
     rotate_left
     ·simp only [Act.put, List.setIfInBounds_toArray, List.set_cons_zero, List.set_cons_succ, Qt, Qu]
      rfl
     refine QL (i := 8) (N := some 92) (v := undef) (a' := ?_) #[true, true, true, true, true, true, true, true, true, false, false, false, false, false, false, false, false, false] rfl rfl (QD HT_.out (by kernel_rfl)) (fun _ _ _ h => h) (Or.inr ⟨by rfl, rfl⟩) ?_ ?_
     rotate_left
     ·simp only [Act.put, List.setIfInBounds_toArray, List.set_cons_zero, List.set_cons_succ, Qt, Qu]
      rfl
     refine QL (i := 9) (N := some 93) (v := undef) (a' := ?_) #[true, true, true, true, true, true, true, true, true, true, false, false, false, false, false, false, false, false] rfl rfl (QD HT_.out (by kernel_rfl)) (fun _ _ _ h => h) (Or.inr ⟨by rfl, rfl⟩) ?_ ?_
     rotate_left
     ·simp only [Act.put, List.setIfInBounds_toArray, List.set_cons_zero, List.set_cons_succ, Qt, Qu]
      rfl
     refine QL (i := 10) (N := some 94) (v := undef) (a' := ?_) #[true, true, true, true, true, true, true, true, true, true, true, false, false, false, false, false, false, false] rfl rfl (QD HT_.out (by kernel_rfl)) (fun _ _ _ h => h) (Or.inr ⟨by rfl, rfl⟩) ?_ ?_
     rotate_left
     ·simp only [Act.put, List.setIfInBounds_toArray, List.set_cons_zero, List.set_cons_succ, Qt, Qu]
      rfl
     refine QL (i := 11) (N := some 95) (v := undef) (a' := ?_) #[true, true, true, true, true, true, true, true, true, true, true, true, false, false, false, false, false, false] rfl rfl (QD HT_.out (by kernel_rfl)) (fun _ _ _ h => h) (Or.inr ⟨by rfl, rfl⟩) ?_ ?_
     rotate_left
     ·simp only [Act.put, List.setIfInBounds_toArray, List.set_cons_zero, List.set_cons_succ, Qt, Qu]
      rfl
     refine QL (i := 12) (N := some 96) (v := undef) (a' := ?_) #[true, true, true, true, true, true, true, true, true, true, true, true, true, false, false, false, false, false] rfl rfl (QD HT_.out (by kernel_rfl)) (fun _ _ _ h => h) (Or.inr ⟨by rfl, rfl⟩) ?_ ?_
     rotate_left
     ·simp only [Act.put, List.setIfInBounds_toArray, List.set_cons_zero, List.set_cons_succ, Qt, Qu]
      rfl
     refine QL (i := 13) (N := some 97) (v := undef) (a' := ?_) #[true, true, true, true, true, true, true, true, true, true, true, true, true, true, false, false, false, false] rfl rfl (QD HT_.out (by kernel_rfl)) (fun _ _ _ h => h) (Or.inr ⟨by rfl, rfl⟩) ?_ ?_
     rotate_left
     ·simp only [Act.put, List.setIfInBounds_toArray, List.set_cons_zero, List.set_cons_succ, Qt, Qu]
      rfl
     refine QL (i := 14) (N := some 98) (v := undef) (a' := ?_) #[true, true, true, true, true, true, true, true, true, true, true, true, true, true, true, false, false, false] rfl rfl (QD HT_.out (by kernel_rfl)) (fun _ _ _ h => h) (Or.inr ⟨by rfl, rfl⟩) ?_ ?_
     rotate_left
     ·simp only [Act.put, List.setIfInBounds_toArray, List.set_cons_zero, List.set_cons_succ, Qt, Qu]
      rfl
     refine QL (i := 15) (N := some 99) (v := undef) (a' := ?_) #[true, true, true, true, true, true, true, true, true, true, true, true, true, true, true, true, false, false] rfl rfl (QD HT_.out (by kernel_rfl)) (fun _ _ _ h => h) (Or.inr ⟨by rfl, rfl⟩) ?_ ?_
     rotate_left
     ·simp only [Act.put, List.setIfInBounds_toArray, List.set_cons_zero, List.set_cons_succ, Qt, Qu]
      rfl
     refine QL (i := 16) (N := some 100) (v := undef) (a' := ?_) #[true, true, true, true, true, true, true, true, true, true, true, true, true, true, true, true, true, false] rfl rfl (QD HT_.out (by kernel_rfl)) (fun _ _ _ h => h) (Or.inr ⟨by rfl, rfl⟩) ?_ ?_
     rotate_left
     ·simp only [Act.put, List.setIfInBounds_toArray, List.set_cons_zero, List.set_cons_succ, Qt, Qu]
      rfl
     refine QL (i := 17) (N := some 101) (v := ?_) (a' := ?_) #[true, true, true, true, true, true, true, true, true, true, true, true, true, true, true, true, true, true] rfl rfl (QD HT_.out (by kernel_rfl)) (fun _ _ _ h => h) (Or.inl ⟨by rfl, ?_⟩) ?_ ?_
     rotate_left
     ·intro w'
      go_simp
      with_reducible rfl
     rotate_left
     ·simp only [Act.put, List.setIfInBounds_toArray, List.set_cons_zero, List.set_cons_succ, Qt, Qu]
      rfl
     refine done_ (done_of HT_.out (by kernel_rfl)) ?_
     try go_wp2
     go_ret2
     exact ⟨_, by first | rfl | (simp [Qw, Qx] <;> rfl) | (simp [*, Qw, Qx] <;> rfl), by first | exact Kd.R_nil _ _ _ _ _ | exact Kd.N_nil _ _ _ _ _ | exact Kd.V_nil _ _ _ _ _ | exact Kd.Q_nil _ _ _ _ _ | exact Kd.S_nil _ _ _ _ _, by repeat (first | (with_reducible first | exact HB.out | apply Qi | apply Qa | apply Qj | refine Qk ?_ GE173.out | refine Qk ?_ GE178.out) | exact HB.out)⟩
    ·rw [if_neg c63] at H
     have c63b0 : ((l1.length : Int) == 0) = false := beq_eq_false_iff_ne.mpr c63
     have c63b1 : ((l1.length : Int) != 0) = true := bne_iff_ne.mpr c63
     have c63b2 : ¬ (l1 = []) := fun h_ => c63 (by rw [h_]; rfl)
     obtain ⟨ji65, hji65⟩ : ∃ j_ : Int, (wrap64 ((l1.length : Int) - 1)) = j_ := ⟨_, rfl⟩
     replace H : (if 0 ≤ (ji65) then (if (ji65) < (l1.length : Int) then (if 0 ≤ (rd l1 (ji65)) then (if (rd l1 (ji65)) < (t175.length : Int) then (if ((Qs t175 (rd l1 (ji65))).f1) < (l0_2.length : Int) then (some (([] : List Int), false)) else (some (x10_1, true))) else (none)) else (none)) else (none)) else (none)) = some (r1, r2) := by first | (rw [hji65] at H; exact H) | (simp only [hji65] at H ⊢; exact H)
     have hji65w : (IntKind.i64.wrap ((l1.length : Int) - 1)) = ji65 := (Qt _).trans hji65
     by_cases c66 : 0 ≤ (ji65)
     ·rw [if_pos c66] at H
      have c66b0 : decide (0 ≤ (ji65)) = true := decide_eq_true c66
      clear c66
      by_cases c67 : (ji65) < (l1.length : Int)
      ·rw [if_pos c67] at H
       have c67b0 : decide ((ji65) < (l1.length : Int)) = true := decide_eq_true c67
       clear c67
       by_cases c68 : 0 ≤ (rd l1 (ji65))
       ·rw [if_pos c68] at H
        have c68b0 : decide (0 ≤ (rd l1 (ji65))) = true := decide_eq_true c68
        clear c68
        by_cases c69 : (rd l1 (ji65)) < (t175.length : Int)
        ·rw [if_pos c69] at H
         have c69b0 : decide ((rd l1 (ji65)) < (t175.length : Int)) = true := decide_eq_true c69
         clear c69
         by_cases c70 : ((Qs t175 (rd l1 (ji65))).f1) < (l0_2.length : Int)
         ·rw [if_pos c70] at H
          have c70b0 : decide (((Qs t175 (rd l1 (ji65))).f1) < (l0_2.length : Int)) = true := decide_eq_true c70
          clear c70
          simp only [Option.some.injEq, Prod.mk.injEq] at H
          obtain ⟨rfl, rfl⟩ := H
          try go_wp2
          have n0_ := Qf.mk (Kd.QT HO_10.out)
          have n1_ := Qf.mk (Kd.QT HO_179001.out)
          have n2_ := Qf.mk (Qg BK173.out)
          have n3_ := Qf.mk (Qg BK178.out)
          have n4_ := Qf.mk (Qj HB.out)
          clear HO_10
          clear HO_179001
          clear BK173
          clear BK178
          clear HB
          have HO_10 := n0_
          have HO_179001 := n1_
          have BK173 := n2_
          have BK178 := n3_
          have HB := n4_
          clear n0_ n1_ n2_ n3_ n4_
          have p179 : 0 ≤ ((ji65) : Int) := of_decide_eq_true (by first | (with_reducible assumption) | assumption)
          have q179 : (ji65) < (l1.length : Int) := of_decide_eq_true (by first | (with_reducible assumption) | assumption)
          obtain ⟨ad179, e179, hx179_0⟩ := Kd.at_int HR1.out (ji65) p179 q179
          have hw179_0 := hx179_0
          cases e179
          replace hx179_0 := (HB.out.cell (World.block_lt_of_cell? w _ hx179_0)).trans hx179_0
          replace p179 := eq_true p179
          replace q179 := eq_true q179
          have p180 : 0 ≤ ((rd l1 (ji65)) : Int) := of_decide_eq_true (by first | (with_reducible assumption) | assumption)
          have q180 : (rd l1 (ji65)) < (t175.length : Int) := of_decide_eq_true (by first | (with_reducible assumption) | assumption)
          obtain ⟨ad180, e180, hx180_0, hx180_1⟩ := at_T92 (Kd.R_reads' HO_179001.out).2.2 (rd l1 (ji65)) p180 q180
          cases e180
          replace p180 := eq_true p180
          replace q180 := eq_true q180
          refine start_ (n := 18) (S := fun w' => w'.cell? ⟨gb178, 0, none⟩ = some (.int .i64 t174) ∧ w'.cell? ⟨gb178, 1, none⟩ = some (.slice (some ad180) t175.length co11) ∧ w'.cell? (ad179.add ((ji65)).toNat) = some (.int .i64 (rd l1 (ji65))) ∧ w'.cell? (ad180.add (((rd l1 (ji65))).toNat * 2)) = some (.int .i64 ((Qs t175 (rd l1 (ji65))).f0)) ∧ w'.cell? ⟨(ad180.add (((rd l1 (ji65))).toNat * 2)).block, (ad180.add (((rd l1 (ji65))).toNat * 2)).off + 1, none⟩ = some (.int .i64 ((Qs t175 (rd l1 (ji65))).f1))) (ds := []) #[false, false, false, false, false, false, false, false, false, false, false, false, false, false, false, false, false, false] (by kernel_rfl) rfl rfl ⟨(Qe BK178.out 0).trans rfl, (Qe BK178.out 1).trans rfl, ((HB.out.cell (World.block_lt_of_cell? w _ hw179_0)).trans hw179_0), hx180_0, hx180_1⟩ (fun hHeld => ?_); refine with_tabW Ql.tab14 Ql.bits14 (fun HT_ HW_ => ?_)
          generalize wr.drew = w71 at HO_10 HO_179001 BK173 BK178 HB hx179_0 hx180_0 hx180_1 hHeld ⊢
          refine QL (i := 0) (N := some 84) (v := ?_) (a' := ?_) #[true, false, false, false, false, false, false, false, false, false, false, false, false, false, false, false, false, false] rfl rfl (QD HT_.out (by kernel_rfl)) (fun _ _ _ h => h) (Or.inl ⟨by rfl, ?_⟩) ?_ ?_
          rotate_left
          ·intro w'
           go_simp
           with_reducible rfl
          rotate_left
          ·simp only [Act.put, List.setIfInBounds_toArray, List.set_cons_zero, List.set_cons_succ, Qt, Qu]
           rfl
          refine QL (i := 1) (N := some 85) (v := ?_) (a' := ?_) #[true, true, false, false, false, false, false, false, false, false, false, false, false, false, false, false, false, false] rfl rfl (QD HT_.out (by kernel_rfl)) (fun _ _ _ h => h) (Or.inl ⟨by rfl, ?_⟩) ?_ ?_
          rotate_left
          ·intro w'
           go_simp
           with_reducible rfl
          rotate_left
          ·simp only [Act.put, List.setIfInBounds_toArray, List.set_cons_zero, List.set_cons_succ, Qt, Qu]
           rfl
          refine QL (i := 2) (N := some 86) (v := ?_) (a' := ?_) #[true, true, true, false, false, false, false, false, false, false, false, false, false, false, false, false, false, false] rfl rfl (QD HT_.out (by kernel_rfl)) (fun _ _ _ h => h) (Or.inl ⟨by rfl, ?_⟩) ?_ ?_
          rotate_left
          ·intro w'
           go_simp
           with_reducible rfl
          rotate_left
          ·simp only [Act.put, List.setIfInBounds_toArray, List.set_cons_zero, List.set_cons_succ, Qt, Qu]
           rfl
          refine QL (i := 3) (N := some 87) (v := ?_) (a' := ?_) #[true, true, true, true, false, false, false, false, false, false, false, false, false, false, false, false, false, false] rfl rfl (QD HT_.out (by kernel_rfl)) (fun _ _ _ h => h) (Or.inl ⟨by rfl, ?_⟩) ?_ ?_
          rotate_left
          ·intro w'
           go_simp
           with_reducible rfl
          rotate_left
          ·simp only [Act.put, List.setIfInBounds_toArray, List.set_cons_zero, List.set_cons_succ, Qt, Qu]
           rfl
          refine QL (i := 4) (N := some 88) (v := ?_) (a' := ?_) #[true, true, true, true, true, false, false, false, false, false, false, false, false, false, false, false, false, false] rfl rfl (QD HT_.out (by kernel_rfl)) (fun _ _ _ h => h) (Or.inl ⟨by rfl, ?_⟩) ?_ ?_
          rotate_left
          ·intro w'
           go_simp
           with_reducible rfl
          rotate_left
          ·simp only [Act.put, List.setIfInBounds_toArray, List.set_cons_zero, List.set_cons_succ, Qt, Qu]
           rfl
          refine QL (i := 6) (N := some 90) (v := ?_) (a' := ?_) #[true, true, true, true, true, false, true, false, false, false, false, false, false, false, false, false, false, false] rfl rfl (QD HT_.out (by kernel_rfl)) (fun _ _ _ h => h) (Or.inl ⟨by rfl, ?_⟩) ?_ ?_
          rotate_left
          ·intro w'
           go_simp
           with_reducible rfl
          rotate_left
          ·simp only [Act.put, List.setIfInBounds_toArray, List.set_cons_zero, List.set_cons_succ, Qt, Qu]
           rfl
          refine QL (i := 7) (N := some 91) (v := ?_) (a' := ?_) #[true, true, true, true, true, false, true, true, false, false, false, false, false, false, false, false, false, false] rfl rfl (QD HT_.out (by kernel_rfl)) (fun _ _ _ h => h) (Or.inl ⟨by rfl, ?_⟩) ?_ ?_
          rotate_left
          ·intro w'
           go_simp
           with_reducible rfl
          rotate_left
          ·simp only [Act.put, List.setIfInBounds_toArray, List.set_cons_zero, List.set_cons_succ, Qt, Qu]
           rfl
          refine QL (i := 8) (N := some 92) (v := ?_) (a' := ?_) #[true, true, true, true, true, false, true, true, true, false, false, false, false, false, false, false, false, false] rfl rfl (QD HT_.out (by kernel_rfl)) (fun _ _ _ h => h) (Or.inl ⟨by rfl, ?_⟩) ?_ ?_
          rotate_left
          ·intro w'
           go_simp
           with_reducible rfl
          rotate_left
          ·simp only [Act.put, List.setIfInBounds_toArray, List.set_cons_zero, List.set_cons_succ, Qt, Qu]
           rfl
          refine QL (i := 9) (N := some 93) (v := ?_) (a' := ?_) #[true, true, true, true, true, false, true, true, true, true, false, false, false, false, false, false, false, false] rfl rfl (QD HT_.out (by kernel_rfl)) (fun _ _ _ h => h) (Or.inl ⟨by rfl, ?_⟩) ?_ ?_
          rotate_left
          ·intro w'
           go_simp
           with_reducible rfl
          rotate_left
          ·simp only [Act.put, List.setIfInBounds_toArray, List.set_cons_zero, List.set_cons_succ, Qt, Qu]
           rfl
          refine QL (i := 10) (N := some 94) (v := ?_) (a' := ?_) #[true, true, true, true, true, false, true, true, true, true, true, false, false, false, false, false, false, false] rfl rfl (QD HT_.out (by kernel_rfl)) (fun _ _ _ h => h) (Or.inl ⟨by rfl, ?_⟩) ?_ ?_
          rotate_left
          ·intro w'
           go_simp
           with_reducible rfl
          rotate_left
          ·simp only [Act.put, List.setIfInBounds_toArray, List.set_cons_zero, List.set_cons_succ, Qt, Qu]
           rfl
          refine QL (i := 15) (N := some 99) (v := ?_) (a' := ?_) #[true, true, true, true, true, false, true, true, true, true, true, false, false, false, false, true, false, false] rfl rfl (QD HT_.out (by kernel_rfl)) (fun _ _ _ h => h) (Or.inl ⟨by rfl, ?_⟩) ?_ ?_
          rotate_left
          ·intro w'
           go_simp
           with_reducible rfl
          rotate_left
          ·simp only [Act.put, List.setIfInBounds_toArray, List.set_cons_zero, List.set_cons_succ, Qt, Qu]
           rfl
          refine take_ (i := 5) (N := some 89) (v := ?_) (a' := ?_) #[true, true, true, true, true, true, true, true, true, true, true, false, false, false, false, true, false, false] rfl rfl (Q8 HT_.out HW_.out (by kernel_rfl)) (fun _ _ _ h => h) (Or.inl ⟨by rfl, ?_⟩) hHeld ?_ ?_
          rotate_left
          ·rintro w' ⟨s0, s1, s2, s3, s4⟩
           go_simp
           with_reducible rfl
          rotate_left
          ·simp only [Act.put, List.setIfInBounds_toArray, List.set_cons_zero, List.set_cons_succ, Qt, Qu]
           rfl
          refine take_ (i := 11) (N := some 95) (v := ?_) (a' := ?_) #[true, true, true, true, true, true, true, true, true, true, true, true, false, false, false, true, false, false] rfl rfl (Q8 HT_.out HW_.out (by kernel_rfl)) (fun _ _ _ h => h) (Or.inl ⟨by rfl, ?_⟩) hHeld ?_ ?_
          rotate_left
          ·rintro w' ⟨s0, s1, s2, s3, s4⟩
           go_simp
           with_reducible rfl
          rotate_left
          ·simp only [Act.put, List.setIfInBounds_toArray, List.set_cons_zero, List.set_cons_succ, Qt, Qu]
           rfl
          refine QL (i := 12) (N := some 96) (v := ?_) (a' := ?_) #[true, true, true, true, true, true, true, true, true, true, true, true, true, false, false, true, false, false] rfl rfl (QD HT_.out (by kernel_rfl)) (fun _ _ _ h => h) (Or.inl ⟨by rfl, ?_⟩) ?_ ?_
          rotate_left
          ·intro w'
           go_simp
           with_reducible rfl
          rotate_left
          ·simp only [Act.put, List.setIfInBounds_toArray, List.set_cons_zero, List.set_cons_succ, Qt, Qu]
           rfl
          refine QL (i := 13) (N := some 97) (v := ?_) (a' := ?_) #[true, true, true, true, true, true, true, true, true, true, true, true, true, true, false, true, false, false] rfl rfl (QD HT_.out (by kernel_rfl)) (fun _ _ _ h => h) (Or.inl ⟨by rfl, ?_⟩) ?_ ?_
          rotate_left
          ·intro w'
           go_simp
           with_reducible rfl
          rotate_left
          ·simp only [Act.put, List.setIfInBounds_toArray, List.set_cons_zero, List.set_cons_succ, Qt, Qu]
           rfl
          refine take_ (i := 14) (N := some 98) (v := ?_) (a' := ?_) #[true, true, true, true, true, true, true, true, true, true, true, true, true, true, true, true, false, false] rfl rfl (Q8 HT_.out HW_.out (by kernel_rfl)) (fun _ _ _ h => h) (Or.inl ⟨by rfl, ?_⟩) hHeld ?_ ?_
          rotate_left
          ·rintro w' ⟨s0, s1, s2, s3, s4⟩
           go_simp
           with_reducible rfl
          rotate_left
          ·simp only [Act.put, List.setIfInBounds_toArray, List.set_cons_zero, List.set_cons_succ, Qt, Qu]
           rfl
          refine QL (i := 16) (N := some 100) (v := ?_) (a' := ?_) #[true, true, true, true, true, true, true, true, true, true, true, true, true, true, true, true, true, false] rfl rfl (QD HT_.out (by kernel_rfl)) (fun _ _ _ h => h) (Or.inl ⟨by rfl, ?_⟩) ?_ ?_
          rotate_left
          ·intro w'
           go_simp
           with_reducible rfl
          rotate_left
          ·simp only [Act.put, List.setIfInBounds_toArray, List.set_cons_zero, List.set_cons_succ, Qt, Qu]
           rfl
          refine QL (i := 17) (N := some 101) (v := ?_) (a' := ?_) #[true, true, true, true, true, true, true, true, true, true, true, true, true, true, true, true, true, true] rfl rfl (QD HT_.out (by kernel_rfl)) (fun _ _ _ h => h) (Or.inl ⟨by rfl, ?_⟩) ?_ ?_
          rotate_left
          ·intro w'
           go_simp
           with_reducible rfl
          rotate_left
          ·simp only [Act.put, List.setIfInBounds_toArray, List.set_cons_zero, List.set_cons_succ, Qt, Qu]
           rfl
          refine done_ (done_of HT_.out (by kernel_rfl)) ?_
          try go_wp2
          go_ret2
          exact ⟨_, by first | rfl | (simp [Qw, Qx] <;> rfl) | (simp only [← hji65]; first | rfl | (simp [Qw, Qx] <;> rfl)) | (simp [*, Qw, Qx] <;> rfl), by first | exact Kd.R_nil _ _ _ _ _ | exact Kd.N_nil _ _ _ _ _ | exact Kd.V_nil _ _ _ _ _ | exact Kd.Q_nil _ _ _ _ _ | exact Kd.S_nil _ _ _ _ _, by repeat (first | (with_reducible first | exact HB.out | apply Qi | apply Qa | apply Qj | refine Qk ?_ GE173.out | refine Qk ?_ GE178.out) | exact HB.out)⟩
         ·rw [if_neg c70] at H
          have c70b0 : decide (((Qs t175 (rd l1 (ji65))).f1) < (l0_2.length : Int)) = false := decide_eq_false c70
          clear c70
          simp only [Option.some.injEq, Prod.mk.injEq] at H
          obtain ⟨rfl, rfl⟩ := H
          try go_wp2
          have n0_ := Qf.mk (Kd.QT HO_10.out)
          have n1_ := Qf.mk (Kd.QT HO_179001.out)
          have n2_ := Qf.mk (Qg BK173.out)
          have n3_ := Qf.mk (Qg BK178.out)
          have n4_ := Qf.mk (Qj HB.out)
          clear HO_10
          clear HO_179001
          clear BK173
          clear BK178
          clear HB
          have HO_10 := n0_
          have HO_179001 := n1_
          have BK173 := n2_
          have BK178 := n3_
          have HB := n4_
          clear n0_ n1_ n2_ n3_ n4_
          have p179 : 0 ≤ ((ji65) : Int) := of_decide_eq_true (by first | (with_reducible assumption) | assumption)
          have q179 : (ji65) < (l1.length : Int) := of_decide_eq_true (by first | (with_reducible assumption) | assumption)
          obtain ⟨ad179, e179, hx179_0⟩ := Kd.at_int HR1.out (ji65) p179 q179
          have hw179_0 := hx179_0
          cases e179
          replace hx179_0 := (HB.out.cell (World.block_lt_of_cell? w _ hx179_0)).trans hx179_0
          replace p179 := eq_true p179
          replace q179 := eq_true q179
          have p180 : 0 ≤ ((rd l1 (ji65)) : Int) := of_decide_eq_true (by first | (with_reducible assumption) | assumption)
          have q180 : (rd l1 (ji65)) < (t175.length : Int) := of_decide_eq_true (by first | (with_reducible assumption) | assumption)
          obtain ⟨ad180, e180, hx180_0, hx180_1⟩ := at_T92 (Kd.R_reads' HO_179001.out).2.2 (rd l1 (ji65)) p180 q180
          cases e180
          replace p180 := eq_true p180
          replace q180 := eq_true q180
          refine start_ (n := 18) (S := fun w' => w'.cell? ⟨gb178, 0, none⟩ = some (.int .i64 t174) ∧ w'.cell? ⟨gb178, 1, none⟩ = some (.slice (some ad180) t175.length co11) ∧ w'.cell? (ad179.add ((ji65)).toNat) = some (.int .i64 (rd l1 (ji65))) ∧ w'.cell? (ad180.add (((rd l1 (ji65))).toNat * 2)) = some (.int .i64 ((Qs t175 (rd l1 (ji65))).f0)) ∧ w'.cell? ⟨(ad180.add (((rd l1 (ji65))).toNat * 2)).block, (ad180.add (((rd l1 (ji65))).toNat * 2)).off + 1, none⟩ = some (.int .i64 ((Qs t175 (rd l1 (ji65))).f1))) (ds := []) #[false, false, false, false, false, false, false, false, false, false, false, false, false, false, false, false, false, false] (by kernel_rfl) rfl rfl ⟨(Qe BK178.out 0).trans rfl, (Qe BK178.out 1).trans rfl, ((HB.out.cell (World.block_lt_of_cell? w _ hw179_0)).trans hw179_0), hx180_0, hx180_1⟩ (fun hHeld => ?_); refine with_tabW Ql.tab14 Ql.bits14 (fun HT_ HW_ => ?_)
          generalize wr.drew = w72 at HO_10 HO_179001 BK173 BK178 HB hx179_0 hx180_0 hx180_1 hHeld ⊢
          refine QL (i := 0) (N := some 84) (v := ?_) (a' := ?_) #[true, false, false, false, false, false, false, false, false, false, false, false, false, false, false, false, false, false] rfl rfl (QD HT_.out (by kernel_rfl)) (fun _ _ _ h => h) (Or.inl ⟨by rfl, ?_⟩) ?_ ?_
          rotate_left
          ·intro w'
           go_simp
           with_reducible rfl
          rotate_left
          ·simp only [Act.put, List.setIfInBounds_toArray, List.set_cons_zero, List.set_cons_succ, Qt, Qu]
           rfl
          refine QL (i := 1) (N := some 85) (v := ?_) (a' := ?_) #[true, true, false, false, false, false, false, false, false, false, false, false, false, false, false, false, false, false] rfl rfl (QD HT_.out (by kernel_rfl)) (fun _ _ _ h => h) (Or.inl ⟨by rfl, ?_⟩) ?_ ?_
          rotate_left
          ·intro w'
           go_simp
           with_reducible rfl
          rotate_left
          ·simp only [Act.put, List.setIfInBounds_toArray, List.set_cons_zero, List.set_cons_succ, Qt, Qu]
           rfl
          refine QL (i := 2) (N := some 86) (v := ?_) (a' := ?_) #[true, true, true, false, false, false, false, false, false, false, false, false, false, false, false, false, false, false] rfl rfl (QD HT_.out (by kernel_rfl)) (fun _ _ _ h => h) (Or.inl ⟨by rfl, ?_⟩) ?_ ?_
          rotate_left
          ·intro w'
           go_simp
           with_reducible rfl
          rotate_left
          ·simp only [Act.put, List.setIfInBounds_toArray, List.set_cons_zero, List.set_cons_succ, Qt, Qu]
           rfl
          refine QL (i := 3) (N := some 87) (v := ?_) (a' := ?_) #[true, true, true, true, false, false, false, false, false, false, false, false, false, false, false, false, false, false] rfl rfl (QD HT_.out (by kernel_rfl)) (fun _ _ _ h => h) (Or.inl ⟨by rfl, ?_⟩) ?_ ?_
          rotate_left
          ·intro w'
           go_simp
           with_reducible rfl
          rotate_left
          ·simp only [Act.put, List.setIfInBounds_toArray, List.set_cons_zero, List.set_cons_succ, Qt, Qu]
           rfl
          refine QL (i := 4) (N := some 88) (v := ?_) (a' := ?_) #[true, true, true, true, true, false, false, false, false, false, false, false, false, false, false, false, false, false] rfl rfl (QD HT_.out (by kernel_rfl)) (fun _ _ _ h => h) (Or.inl ⟨by rfl, ?_⟩) ?_ ?_
          rotate_left
          ·intro w'
           go_simp
           with_reducible rfl
          rotate_left
          ·simp only [Act.put, List.setIfInBounds_toArray, List.set_cons_zero, List.set_cons_succ, Qt, Qu]
           rfl
          refine QL (i := 6) (N := some 90) (v := ?_) (a' := ?_) #[true, true, true, true, true, false, true, false, false, false, false, false, false, false, false, false, false, false] rfl rfl (QD HT_.out (by kernel_rfl)) (fun _ _ _ h => h) (Or.inl ⟨by rfl, ?_⟩) ?_ ?_
          rotate_left
          ·intro w'
           go_simp
           with_reducible rfl
          rotate_left
          ·simp only [Act.put, List.setIfInBounds_toArray, List.set_cons_zero, List.set_cons_succ, Qt, Qu]
           rfl
          refine QL (i := 7) (N := some 91) (v := ?_) (a' := ?_) #[true, true, true, true, true, false, true, true, false, false, false, false, false, false, false, false, false, false] rfl rfl (QD HT_.out (by kernel_rfl)) (fun _ _ _ h => h) (Or.inl ⟨by rfl, ?_⟩) ?_ ?_
          rotate_left
          ·intro w'
           go_simp
           with_reducible rfl
          rotate_left
          ·simp only [Act.put, List.setIfInBounds_toArray, List.set_cons_zero, List.set_cons_succ, Qt, Qu]
           rfl
          refine QL (i := 8) (N := some 92) (v := ?_) (a' := ?_) #[true, true, true, true, true, false, true, true, true, false, false, false, false, false, false, false, false, false] rfl rfl (QD HT_.out (by kernel_rfl)) (fun _ _ _ h => h) (Or.inl ⟨by rfl, ?_⟩) ?_ ?_
          rotate_left
          ·intro w'
           go_simp
           with_reducible rfl
          rotate_left
          ·simp only [Act.put, List.setIfInBounds_toArray, List.set_cons_zero, List.set_cons_succ, Qt, Qu]
           rfl
          refine QL (i := 9) (N := some 93) (v := ?_) (a' := ?_) #[true, true, true, true, true, false, true, true, true, true, false, false, false, false, false, false, false, false] rfl rfl (QD HT_.out (by kernel_rfl)) (fun _ _ _ h => h) (Or.inl ⟨by rfl, ?_⟩) ?_ ?_
          rotate_left
          ·intro w'
           go_simp
           with_reducible rfl
          rotate_left
          ·simp only [Act.put, List.setIfInBounds_toArray, List.set_cons_zero, List.set_cons_succ, Qt, Qu]
           rfl
          refine QL (i := 10) (N := some 94) (v := ?_) (a' := ?_) #[true, true, true, true, true, false, true, true, true, true, true, false, false, false, false, false, false, false] rfl rfl (QD HT_.out (by kernel_rfl)) (fun _ _ _ h => h) (Or.inl ⟨by rfl, ?_⟩) ?_ ?_
          rotate_left
          ·intro w'
           go_simp
           with_reducible rfl
          rotate_left
          ·simp only [Act.put, List.setIfInBounds_toArray, List.set_cons_zero, List.set_cons_succ, Qt, Qu]
           rfl
          refine QL (i := 15) (N := some 99) (v := ?_) (a' := ?_) #[true, true, true, true, true, false, true, true, true, true, true, false, false, false, false, true, false, false] rfl rfl (QD HT_.out (by kernel_rfl)) (fun _ _ _ h => h) (Or.inl ⟨by rfl, ?_⟩) ?_ ?_
          rotate_left
          ·intro w'
           go_simp
           with_reducible rfl
          rotate_left
          ·simp only [Act.put, List.setIfInBounds_toArray, List.set_cons_zero, List.set_cons_succ, Qt, Qu]
           rfl
          refine take_ (i := 5) (N := some 89) (v := ?_) (a' := ?_) #[true, true, true, true, true, true, true, true, true, true, true, false, false, false, false, true, false, false] rfl rfl (Q8 HT_.out HW_.out (by kernel_rfl)) (fun _ _ _ h => h) (Or.inl ⟨by rfl, ?_⟩) hHeld ?_ ?_
          rotate_left
          ·rintro w' ⟨s0, s1, s2, s3, s4⟩
           go_simp
           with_reducible rfl
          rotate_left
          ·simp only [Act.put, List.setIfInBounds_toArray, List.set_cons_zero, List.set_cons_succ, Qt, Qu]
           rfl
          refine take_ (i := 11) (N := some 95) (v := ?_) (a' := ?_) #[true, true, true, true, true, true, true, true, true, true, true, true, false, false, false, true, false, false] rfl rfl (Q8 HT_.out HW_.out (by kernel_rfl)) (fun _ _ _ h => h) (Or.inl ⟨by rfl, ?_⟩) hHeld ?_ ?_
          rotate_left
          ·rintro w' ⟨s0, s1, s2, s3, s4⟩
           go_simp
           with_reducible rfl
          rotate_left
          ·simp only [Act.put, List.setIfInBounds_toArray, List.set_cons_zero, List.set_cons_succ, Qt, Qu]
           rfl
          refine QL (i := 12) (N := some 96) (v := ?_) (a' := ?_) #[true, true, true, true, true, true, true, true, true, true, true, true, true, false, false, true, false, false] rfl rfl (QD HT_.out (by kernel_rfl)) (fun _ _ _ h => h) (Or.inl ⟨by rfl, ?_⟩) ?_ ?_
          rotate_left
          ·intro w'
           go_simp
           with_reducible rfl
          rotate_left
          ·simp only [Act.put, List.setIfInBounds_toArray, List.set_cons_zero, List.set_cons_succ, Qt, Qu]
           rfl
          refine QL (i := 13) (N := some 97) (v := ?_) (a' := ?_) #[true, true, true, true, true, true, true, true, true, true, true, true, true, true, false, true, false, false] rfl rfl (QD HT_.out (by kernel_rfl)) (fun _ _ _ h => h) (Or.inl ⟨by rfl, ?_⟩) ?_ ?_
          rotate_left
          ·intro w'
           go_simp
           with_reducible rfl
          rotate_left
          ·simp only [Act.put, List.setIfInBounds_toArray, List.set_cons_zero, List.set_cons_succ, Qt, Qu]
           rfl
          refine take_ (i := 14) (N := some 98) (v := ?_) (a' := ?_) #[true, true, true, true, true, true, true, true, true, true, true, true, true, true, true, true, false, false] rfl rfl (Q8 HT_.out HW_.out (by kernel_rfl)) (fun _ _ _ h => h) (Or.inl ⟨by rfl, ?_⟩) hHeld ?_ ?_
          rotate_left
          ·rintro w' ⟨s0, s1, s2, s3, s4⟩
           go_simp
           with_reducible rfl
          rotate_left
          ·simp only [Act.put, List.setIfInBounds_toArray, List.set_cons_zero, List.set_cons_succ, Qt, Qu]
           rfl
          refine QL (i := 16) (N := some 100) (v := ?_) (a' := ?_) #[true, true, true, true, true, true, true, true, true, true, true, true, true, true, true, true, true, false] rfl rfl (QD HT_.out (by kernel_rfl)) (fun _ _ _ h => h) (Or.inl ⟨by rfl, ?_⟩) ?_ ?_
          rotate_left
          ·intro w'
           go_simp
           with_reducible rfl
          rotate_left
          ·simp only [Act.put, List.setIfInBounds_toArray, List.set_cons_zero, List.set_cons_succ, Qt, Qu]
           rfl
          refine QL (i := 17) (N := some 101) (v := ?_) (a' := ?_) #[true, true, true, true, true, true, true, true, true, true, true, true, true, true, true, true, true, true] rfl rfl (QD HT_.out (by kernel_rfl)) (fun _ _ _ h => h) (Or.inl ⟨by rfl, ?_⟩) ?_ ?_
          rotate_left
          ·intro w'
           go_simp
           with_reducible rfl
          rotate_left
          ·simp only [Act.put, List.setIfInBounds_toArray, List.set_cons_zero, List.set_cons_succ, Qt, Qu]
           rfl
          refine done_ (done_of HT_.out (by kernel_rfl)) ?_
          try go_wp2
          go_ret2
          exact ⟨_, by first | rfl | (simp [Qw, Qx] <;> rfl) | (simp only [← hji65]; first | rfl | (simp [Qw, Qx] <;> rfl)) | (simp [*, Qw, Qx] <;> rfl), by (with_reducible repeat (first | apply Kd.QP | apply Kd.QQ | apply Kd.QT)); exact HO_10.out, by repeat (first | (with_reducible first | exact HB.out | apply Qi | apply Qa | apply Qj | refine Qk ?_ GE173.out | refine Qk ?_ GE178.out) | exact HB.out)⟩
        ·rw [if_neg c69] at H
         exact absurd H (by simp)
       ·rw [if_neg c68] at H
        exact absurd H (by simp)
      ·rw [if_neg c67] at H
       exact absurd H (by simp)
     ·rw [if_neg c66] at H
      exact absurd H (by simp)

end Go.Proofs.Ytbkfjmpnbalkaaa.QTurnsPieces
