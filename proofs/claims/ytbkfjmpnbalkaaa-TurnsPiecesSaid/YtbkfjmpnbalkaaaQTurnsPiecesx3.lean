-- Written by a program of this session (wip/ext.py) with the kit's print; Lean checks it.
import Derived.Test.YtbkfjmpnbalkaaaQTurnsPiecesx0
namespace Go.Proofs.Ytbkfjmpnbalkaaa.QTurnsPieces
open Go.RowKit Go.Proofs.YtbkfjmpnbalkaaaW.PrintWords Go.Proofs.YtbkfjmpnbalkaaaW.PrintLast Go.Proofs.YtbkfjmpnbalkaaaW.PrintMore
attribute [local go_sem] max2_int min2_int max_two min_two max_three min_three max_four min_four   -- for this text's walks alone
set_option linter.unusedVariables false
set_option linter.unusedSimpArgs false

/-! ### Jaa: function 37 (a contract of our own) -/
theorem blk_at {W : World} {n : Nat} {o : Obj} (h : n = W.heap.size) : (W.alloc o).heap[n]? = some o := by subst h; exact blk_new W _
theorem rd_mem (l : List Int) (i : Int) (h0 : 0 ≤ i) (h1 : i < l.length) : rd l i ∈ l := by
 unfold rd
 rw [List.getD_eq_getElem?_getD, List.getElem?_eq_getElem (by omega)]
 exact List.getElem_mem _
theorem back_calls (y0 y1 y2 y3 y4 : Int) (v5 : Value) (y6 y7 : Int) (x0 x1 x2 x3 x4 : Int) (u5 : Value) (x6 x7 : Int) (g : Nat) (w : World) (b : Bool) (hb : decide (y2 = x2 ∧ y1 = x0) = b)
  (hg : w.heap[g]? = some (.cells #[.int .i64 x0, .int .i64 x1, .int .i64 x2, .int .i64 x3, .int .i64 x4, u5, .int .i64 x6, .int .i64 x7] 58 (0, 0))) :
  Calls Try.prog 60 #[.agg #[.int .i64 y0, .int .i64 y1, .int .i64 y2, .int .i64 y3, .int .i64 y4, v5, .int .i64 y6, .int .i64 y7], .pointer (some ⟨g, 0, none⟩)] w
   fun e w' => e = .returned (.bool b) ∧ Below w.heap.size w w' := by
 have hc0 := (Qe hg 0).trans (rfl : _ = some (Value.int .i64 x0))
 have hc2 := (Qe hg 2).trans (rfl : _ = some (Value.int .i64 x2))
 have hlt := QR hg
 have HG := Qf.mk hg
 clear hg
 subst hb
 by_cases h2 : y2 = x2
 ·have b2 : (y2 == x2) = true := by simp [h2]
  by_cases h1 : y1 = x0
  all_goals
   go_enter Try.func60, Try.ntmps60
   go_wp2
   go_ret
   exact ⟨by simp [h1, h2], Qi (Below.refl _ _) _⟩
 ·go_enter Try.func60, Try.ntmps60
  go_wp2
  go_ret
  exact ⟨by simp [h2], Qi (Below.refl _ _) _⟩

def pcBack (x p : S58) : Bool := decide (p.f2 = x.f2 ∧ p.f1 = x.f0)
def pcScan (x2 via y2 : Int) : List S42 → Bool → Bool → Bool
 | [], must, may => !must || may
 | t :: ts, must, may => if t.f0 ≠ x2 ∨ t.f1 ≠ via then pcScan x2 via y2 ts must may else if t.f3 = true then pcScan x2 via y2 ts true (may || decide (t.f2 = y2)) else if t.f2 = y2 then false else pcScan x2 via y2 ts must may
def permB (l0_0 : List Int) (l0_2 : List S58) (l1 : List S42) (l2 : List Int) (a3 a4 : Int) : Bool :=
 !(pcBack (Qh l0_2 a3) (Qh l0_2 a4) && l2.any (fun i => !pcBack (Qh l0_2 a3) (Qh l0_2 i))) && pcScan (Qh l0_2 a3).f2 (rd l0_0 (Qh l0_2 a3).f1) (Qh l0_2 a4).f2 l1 false false
def Jaa.f (l0_0 : List Int) (l0_1 : List S158) (l0_2 : List S58) (l1 : List S42) (l2 : List Int) (a3 a4 : Int) : Option Bool :=
 if 0 ≤ a3 ∧ a3 < l0_2.length ∧ 0 ≤ a4 ∧ a4 < l0_2.length ∧ 0 ≤ (Qh l0_2 a3).f1 ∧ (Qh l0_2 a3).f1 < l0_0.length ∧ (∀ i ∈ l2, 0 ≤ i ∧ i < l0_2.length) then some (permB l0_0 l0_2 l1 l2 a3 a4) else none

theorem upto_succ {P : Nat → Prop} {k : Nat} (h : ∀ j, j < k → P j) (hk : P k) : ∀ j, j < k + 1 → P j := fun j hj => by
 rcases Nat.lt_or_ge j k with h1 | h1
 ·exact h j h1
 ·have : j = k := by omega
  subst this
  exact hk
theorem upto_all (l : List Int) (P : Int → Prop) (k : Nat) (hk : l.length ≤ k) (h : ∀ j : Nat, j < k → P (rd l j)) : ∀ i ∈ l, P i := fun i hi => by
 obtain ⟨j, hj, rfl⟩ := List.mem_iff_getElem.1 hi
 have := h j (by omega)
 unfold rd at this
 rwa [Int.toNat_natCast, List.getD_eq_getElem?_getD, List.getElem?_eq_getElem hj] at this
theorem perm_no {l0_0 : List Int} {l0_2 : List S58} {l1 : List S42} {l2 : List Int} {a3 a4 i : Int} (hb : pcBack (Qh l0_2 a3) (Qh l0_2 a4) = true) (hi : i ∈ l2) (hn : pcBack (Qh l0_2 a3) (Qh l0_2 i) = false) : Ending.returned (Value.bool false) = Ending.returned (Value.bool (permB l0_0 l0_2 l1 l2 a3 a4)) := by
 have : l2.any (fun i => !pcBack (Qh l0_2 a3) (Qh l0_2 i)) = true := List.any_eq_true.2 ⟨i, hi, by rw [hn]; rfl⟩
 unfold permB
 rw [hb, this]
 rfl
theorem perm_yes {l0_0 : List Int} {l0_2 : List S58} {l1 : List S42} {l2 : List Int} {a3 a4 : Int} {b0 : Bool} (hb : pcBack (Qh l0_2 a3) (Qh l0_2 a4) = b0) (hi : b0 = true → ∀ i ∈ l2, pcBack (Qh l0_2 a3) (Qh l0_2 i) = true) : permB l0_0 l0_2 l1 l2 a3 a4 = pcScan (Qh l0_2 a3).f2 (rd l0_0 (Qh l0_2 a3).f1) (Qh l0_2 a4).f2 l1 false false := by
 unfold permB
 rw [hb]
 cases b0 with
 | false => simp
 | true =>
  have : l2.any (fun i => !pcBack (Qh l0_2 a3) (Qh l0_2 i)) = false := by
   rw [List.any_eq_false]
   intro i h
   rw [hi rfl i h]
   simp
  rw [this]
  simp
theorem pcScan_step (x2 via y2 : Int) (l : List S42) (k : Nat) (hk : k < l.length) (must may : Bool) : pcScan x2 via y2 (l.drop k) must may =
  if (rd_T42 l k).f0 ≠ x2 ∨ (rd_T42 l k).f1 ≠ via then pcScan x2 via y2 (l.drop (k + 1)) must may else if (rd_T42 l k).f3 = true then pcScan x2 via y2 (l.drop (k + 1)) true (may || decide ((rd_T42 l k).f2 = y2)) else if (rd_T42 l k).f2 = y2 then false else pcScan x2 via y2 (l.drop (k + 1)) must may := by
 have e : l.drop k = rd_T42 l k :: l.drop (k + 1) := by
  rw [List.drop_eq_getElem_cons hk]
  congr 1
  unfold rd_T42
  simp [List.getD_eq_getElem?_getD, List.getElem?_eq_getElem hk]
 rw [e]
 rfl

set_option maxHeartbeats 8000000 in
set_option maxRecDepth 100000 in
theorem Jaa.calls (A0_0 : Option Addr) (c0_0 : Nat) (l0_0 : List Int) (A0_1 : Option Addr) (c0_1 : Nat) (l0_1 : List (S158)) (A0_2 : Option Addr) (c0_2 : Nat) (l0_2 : List (S58)) (A1 : Option Addr) (c1 : Nat) (l1 : List (S42)) (A2 : Option Addr) (c2 : Nat) (l2 : List Int) (a3 : Int) (a4 : Int) (r : Bool) (w : World) (hr0_0 : Kd.C (Kd.int .i64) w A0_0 l0_0.length l0_0) (hc0_0 : l0_0.length ≤ c0_0) (hr0_1 : Kd.C k158 w A0_1 l0_1.length l0_1) (hc0_1 : l0_1.length ≤ c0_1) (hr0_2 : Kd.C k58 w A0_2 l0_2.length l0_2) (hc0_2 : l0_2.length ≤ c0_2) (hr1 : Kd.C k42 w A1 l1.length l1) (hc1 : l1.length ≤ c1) (hr2 : Kd.C (Kd.int .i64) w A2 l2.length l2) (hc2 : l2.length ≤ c2) (h : Jaa.f l0_0 l0_1 l0_2 l1 l2 a3 a4 = some r) :
  Calls Try.prog 37 #[.agg #[.slice A0_0 l0_0.length c0_0, .slice A0_1 l0_1.length c0_1, .slice A0_2 l0_2.length c0_2], .slice A1 l1.length c1, .slice A2 l2.length c2, .int .i64 a3, .int .i64 a4] w fun e w' => e = .returned (.bool r) ∧ Below w.heap.size w w' := by
 unfold Jaa.f at h
 split at h
 case isFalse => simp at h
 rename_i hcond
 obtain ⟨h30, h31, h40, h41, hv0, hv1, hl2⟩ := hcond
 obtain rfl := Option.some.inj h
 clear h
 obtain ⟨ad3, A3, c3, e3, x0, x1, x2, x3, x4, x5, x6, x7, hl3, hk3⟩ := at_T58 hr0_2 a3 h30 h31
 obtain ⟨ad4, A4, c4, e4, y0, y1, y2, y3, y4, y5, y6, y7, hl4, hk4⟩ := at_T58 hr0_2 a4 h40 h41
 subst e3
 cases e4
 have b3 := World.block_lt_of_cell? w _ x0
 have b4 := World.block_lt_of_cell? w _ y0
 have b3' := Nat.lt_succ_of_lt b3
 have b4' := Nat.lt_succ_of_lt b4
 have b3'' := Nat.lt_succ_of_lt b3'
 have b4'' := Nat.lt_succ_of_lt b4'
 have HL2 := Qf.mk hl2
 have HR1 := Qf.mk hr1
 have HR2 := Qf.mk hr2
 have HR0 := Qf.mk hr0_0
 have HR02 := Qf.mk hr0_2
 have HLN : l2.length ≤ 9223372036854775807 := hr2.2.1
 have HLN1 : l1.length ≤ 9223372036854775807 := hr1.2.1
 clear hl2 hr1 hr2 hr0_0 hr0_1 hr0_2 hl3 hl4 hk3 hk4
 go_enter Try.func37, Try.ntmps37
 go_wp2_with fail
 go_cut [11, 12] from 20 to 29 (fun v11 v12 wc => ∃ g11 g12 : Nat, v11 = .pointer (some ⟨g11, 0, none⟩) ∧ v12 = .pointer (some ⟨g12, 0, none⟩) ∧ Qf (wc.heap[w.heap.size]? = some (.cells #[.slice A0_0 l0_0.length c0_0, .slice A0_1 l0_1.length c0_1, .slice (some ad3) l0_2.length c0_2] 37 (0, 0))) ∧ Qf (wc.heap[g11]? = some (.cells #[.int .i64 (Qh l0_2 a3).f0, .int .i64 (Qh l0_2 a3).f1, .int .i64 (Qh l0_2 a3).f2, .int .i64 (Qh l0_2 a3).f3, .int .i64 (Qh l0_2 a3).f4, .slice A3 (Qh l0_2 a3).f5.f0.length c3, .int .i64 (Qh l0_2 a3).f5.f1, .int .i64 (Qh l0_2 a3).f5.f2] 58 (0, 0))) ∧ Qf (wc.heap[g12]? = some (.cells #[.int .i64 (Qh l0_2 a4).f0, .int .i64 (Qh l0_2 a4).f1, .int .i64 (Qh l0_2 a4).f2, .int .i64 (Qh l0_2 a4).f3, .int .i64 (Qh l0_2 a4).f4, .slice A4 (Qh l0_2 a4).f5.f0.length c4, .int .i64 (Qh l0_2 a4).f5.f1, .int .i64 (Qh l0_2 a4).f5.f2] 58 (0, 0))) ∧ Qf (Below w.heap.size w wc))
 case first =>
  go_region
  all_goals
   go_wp2_with fail
   go_meet
   have HB := Qf.mk (Below.refl w.heap.size w)
   case rel => exact ⟨_, _, rfl, rfl, ⟨(by (repeat (first | exact blk_at (by simp; done) | refine Qg ?_ | refine Qb ?_ _)))⟩, ⟨(by (repeat (first | exact blk_at (by simp; done) | refine Qg ?_ | refine Qb ?_ _)))⟩, ⟨(by (repeat (first | exact blk_at (by simp; done) | refine Qg ?_ | refine Qb ?_ _)))⟩, ⟨(by repeat (first | (with_reducible first | exact HB.out | apply Qi | apply Qa | apply Qj) | exact HB.out | exact HBR.out | refine Qo HB.out ?_))⟩⟩
 case rest =>
  obtain ⟨g11, g12, rfl, rfl, B5, B11, B12, HB⟩ := hcut
  clear x0 x1 x2 x3 x4 x5 x6 x7 y0 y1 y2 y3 y4 y5 y6 y7 b3 b4 b3' b4' b3'' b4''
  obtain ⟨g5, hg5⟩ : ∃ g, g = w.heap.size := ⟨_, rfl⟩
  rw [← hg5] at B5 ⊢
  clear hg5
  have R1 := Qf.mk (Kd.Qr HR1.out HB.out)
  have R2 := Qf.mk (Kd.Qr HR2.out HB.out)
  have R0 := Qf.mk (Kd.Qr HR0.out HB.out)
  have R02 := Qf.mk (Kd.Qr HR02.out HB.out)
  clear HR1 HR2 HR0 HR02
  have d0 := (Qe B12.out 0).trans (rfl : _ = some (Value.int .i64 (Qh l0_2 a4).f0))
  have d1 := (Qe B12.out 1).trans (rfl : _ = some (Value.int .i64 (Qh l0_2 a4).f1))
  have d2 := (Qe B12.out 2).trans (rfl : _ = some (Value.int .i64 (Qh l0_2 a4).f2))
  have d3 := (Qe B12.out 3).trans (rfl : _ = some (Value.int .i64 (Qh l0_2 a4).f3))
  have d4 := (Qe B12.out 4).trans (rfl : _ = some (Value.int .i64 (Qh l0_2 a4).f4))
  have d5 := (Qe B12.out 5).trans (rfl : _ = some (Value.slice A4 (Qh l0_2 a4).f5.f0.length c4))
  have d6 := (Qe B12.out 6).trans (rfl : _ = some (Value.int .i64 (Qh l0_2 a4).f5.f1))
  have d7 := (Qe B12.out 7).trans (rfl : _ = some (Value.int .i64 (Qh l0_2 a4).f5.f2))
  obtain ⟨b0, hb0⟩ : ∃ b, pcBack (Qh l0_2 a3) (Qh l0_2 a4) = b := ⟨_, rfl⟩
  have HB0 := Qf.mk hb0
  clear hb0
  go_upto_if 33 with (go_at_call 60; refine (back_calls _ _ _ _ _ _ _ _ _ _ _ _ _ _ _ _ _ _ b0 HB0.out B11.out).mono ?_; rintro e w1 ⟨rfl, hb1⟩; have HB1 := Qf.mk hb1; clear hb1)
  have HBR := Qf.mk (Qo HB.out HB1.out)
  have C5 := Qf.mk ((HB1.out.block _ (QR B5.out)).trans B5.out)
  have C11 := Qf.mk ((HB1.out.block _ (QR B11.out)).trans B11.out)
  have C12 := Qf.mk ((HB1.out.block _ (QR B12.out)).trans B12.out)
  have Q1 := Qf.mk (Kd.Qr R1.out HB1.out)
  have Q2 := Qf.mk (Kd.Qr R2.out HB1.out)
  have Q0 := Qf.mk (Kd.Qr R0.out HB1.out)
  have Q02 := Qf.mk (Kd.Qr R02.out HB1.out)
  clear R1 R2 R0 R02 B5 B11 B12 HB HB1 d0 d1 d2 d3 d4 d5 d6 d7
  go_cut [15] from 34 to 48 (fun v15 wc2 => Qf (Below w1.heap.size w1 wc2) ∧ Qf (b0 = true → ∀ i ∈ l2, pcBack (Qh l0_2 a3) (Qh l0_2 i) = true))
  case first =>
   cases b0 with
   | false =>
    go_wp2
    go_meet
    case rel => exact ⟨⟨Below.refl _ _⟩, ⟨fun h => by cases h⟩⟩
   | true =>
    go_wp2
    go_loopg [36] l2.length (fun kq v36 w' => ∃ k : Nat, v36 = .int .i64 k ∧ Qf (k + kq = l2.length) ∧ Qf (∀ j : Nat, j < k → pcBack (Qh l0_2 a3) (Qh l0_2 (rd l2 j)) = true) ∧ Qf (Below w1.heap.size w1 w'))
    case atStart => exact ⟨0, rfl, ⟨by omega⟩, ⟨fun j hj => by omega⟩, ⟨Below.refl _ _⟩⟩
    case round =>
     obtain ⟨k, rfl, HK, HA, HB⟩ := hrel
     by_cases hk : k < l2.length
     ·obtain ⟨ji, hji⟩ : ∃ j : Int, j = rd l2 k := ⟨_, rfl⟩
      obtain ⟨hi0, hi1⟩ := HL2.out (rd l2 k) (rd_mem l2 k (by omega) (by omega))
      obtain ⟨ad2, e2, z0⟩ := Kd.at_int Q2.out (k : Int) (by omega) (by omega)
      obtain ⟨adp, Ap, cp, ep, x0, x1, x2, x3, x4, x5, x6, x7, hlp, hkp⟩ := at_T58 Q02.out (rd l2 k) hi0 hi1
      subst e2
      cases ep
      rw [Int.toNat_natCast] at z0
      replace z0 := (HB.out.cell (World.block_lt_of_cell? w1 _ z0)).trans z0
      replace x0 := (HB.out.cell (World.block_lt_of_cell? w1 _ x0)).trans x0
      replace x1 := (HB.out.cell (World.block_lt_of_cell? w1 _ x1)).trans x1
      replace x2 := (HB.out.cell (World.block_lt_of_cell? w1 _ x2)).trans x2
      replace x3 := (HB.out.cell (World.block_lt_of_cell? w1 _ x3)).trans x3
      replace x4 := (HB.out.cell (World.block_lt_of_cell? w1 _ x4)).trans x4
      replace x5 := (HB.out.cell (World.block_lt_of_cell? w1 _ x5)).trans x5
      replace x6 := (HB.out.cell (World.block_lt_of_cell? w1 _ x6)).trans x6
      replace x7 := (HB.out.cell (World.block_lt_of_cell? w1 _ x7)).trans x7
      clear hlp hkp
      have D5 := Qf.mk ((HB.out.block _ (QR C5.out)).trans C5.out)
      have D11 := Qf.mk ((HB.out.block _ (QR C11.out)).trans C11.out)
      have d2 := (Qe D5.out 2).trans (rfl : _ = some (Value.slice (some ad3) l0_2.length c0_2))
      obtain ⟨bi, hbi⟩ : ∃ b, pcBack (Qh l0_2 a3) (Qh l0_2 (rd l2 k)) = b := ⟨_, rfl⟩
      have HBI := Qf.mk hbi
      clear hbi
      rw [← hji] at x0 x1 x2 x3 x4 x5 x6 x7 z0 hi0 hi1 HBI
      have HJI := Qf.mk hji
      clear hji
      have hkd : decide ((k : Int) < (l2.length : Int)) = true := decide_eq_true (by omega)
      have hkd' : decide (k < l2.length) = true := decide_eq_true hk
      cases bi with
      | true =>
       go_wp2_with (go_at_call 60; refine (back_calls _ _ _ _ _ _ _ _ _ _ _ _ _ _ _ _ _ _ true HBI.out D11.out).mono ?_; rintro e w2 ⟨rfl, hb1⟩; have HB1 := Qf.mk hb1; clear hb1)
       go_roundg (gk - 1)
       case measure => have := HK.out; omega
       case rel => exact ⟨k + 1, by go_num, ⟨by have := HK.out; omega⟩, ⟨upto_succ HA.out (by rw [← HJI.out]; exact HBI.out)⟩, ⟨Qo HB.out HB1.out⟩⟩
      | false =>
       go_wp2_with (go_at_call 60; refine (back_calls _ _ _ _ _ _ _ _ _ _ _ _ _ _ _ _ _ _ false HBI.out D11.out).mono ?_; rintro e w2 ⟨rfl, hb1⟩; have HB1 := Qf.mk hb1; clear hb1)
       go_ret
       exact ⟨perm_no (HB0.out) (i := rd l2 k) (rd_mem l2 k (by omega) (by omega)) (by rw [← HJI.out]; exact HBI.out), Qo HBR.out (Qo HB.out HB1.out)⟩
     ·have hkd : decide ((k : Int) < (l2.length : Int)) = false := decide_eq_false (by omega)
      have hkd' : decide (k < l2.length) = false := decide_eq_false hk
      go_wp2
      go_meet
      case rel => exact ⟨HB, ⟨fun _ i hi => upto_all l2 (fun i => pcBack (Qh l0_2 a3) (Qh l0_2 i) = true) k (by omega) HA.out i hi⟩⟩
  case rest =>
   obtain ⟨HB2, HALL⟩ := hcut
   have E5 := Qf.mk ((HB2.out.block _ (QR C5.out)).trans C5.out)
   have E11 := Qf.mk ((HB2.out.block _ (QR C11.out)).trans C11.out)
   have E12 := Qf.mk ((HB2.out.block _ (QR C12.out)).trans C12.out)
   have P1 := Qf.mk (Kd.Qr Q1.out HB2.out)
   have P0 := Qf.mk (Kd.Qr Q0.out HB2.out)
   have HBW := Qf.mk (Qo HBR.out HB2.out)
   clear Q1 Q2 Q0 Q02 C5 C11 C12 HB2 HBR
   obtain ⟨ad0, e0, n0⟩ := Kd.at_int P0.out _ hv0 hv1
   cases e0
   have hp := perm_yes (l0_0 := l0_0) (l1 := l1) HB0.out HALL.out
   have HP := Qf.mk hp
   clear hp HALL HL2
   obtain ⟨wa, hwa⟩ : ∃ wa : World, wa = wc := ⟨_, rfl⟩
   rw [← hwa] at n0 P1 P0 E5 E11 E12 HBW ⊢
   clear hwa
   go_wp2
   go_loopg [16, 17, 51] l1.length (fun kq v16 v17 v51 w' => ∃ (k : Nat) (must may : Bool), v51 = .int .i64 k ∧ v16 = .bool must ∧ v17 = .bool may ∧ Qf (k + kq = l1.length) ∧ Qf (pcScan (Qh l0_2 a3).f2 (rd l0_0 (Qh l0_2 a3).f1) (Qh l0_2 a4).f2 (l1.drop k) must may = permB l0_0 l0_2 l1 l2 a3 a4) ∧ Qf (Below wa.heap.size wa w'))
   case atStart => exact ⟨0, false, false, rfl, rfl, rfl, ⟨by omega⟩, ⟨HP.out.symm⟩, ⟨Below.refl _ _⟩⟩
   case round =>
    obtain ⟨k, must, may, rfl, rfl, rfl, HK, HS, HB⟩ := hrel
    by_cases hk : k < l1.length
    ·have hstep := pcScan_step (Qh l0_2 a3).f2 (rd l0_0 (Qh l0_2 a3).f1) (Qh l0_2 a4).f2 l1 k hk must may
     rw [HS.out] at hstep
     have HSTEP := Qf.mk hstep
     clear hstep HS
     obtain ⟨ad1, e1, t0, t1, t2, t3⟩ := at_T42 P1.out (k : Int) (by omega) (by omega)
     subst e1
     rw [Int.toNat_natCast] at t0 t1 t2 t3
     obtain ⟨t, ht⟩ : ∃ t, t = rd_T42 l1 k := ⟨_, rfl⟩
     rw [← ht] at t0 t1 t2 t3 HSTEP
     clear ht
     replace t0 := (HB.out.cell (World.block_lt_of_cell? wa _ t0)).trans t0
     replace t1 := (HB.out.cell (World.block_lt_of_cell? wa _ t1)).trans t1
     replace t2 := (HB.out.cell (World.block_lt_of_cell? wa _ t2)).trans t2
     replace t3 := (HB.out.cell (World.block_lt_of_cell? wa _ t3)).trans t3
     replace n0 := (HB.out.cell (World.block_lt_of_cell? wa _ n0)).trans n0
     have hb0 := World.block_lt_of_cell? _ _ n0
     have D5 := Qf.mk ((HB.out.block _ (QR E5.out)).trans E5.out)
     have D11 := Qf.mk ((HB.out.block _ (QR E11.out)).trans E11.out)
     have D12 := Qf.mk ((HB.out.block _ (QR E12.out)).trans E12.out)
     have hl5 := QR D5.out
     have hl11 := QR D11.out
     have hl12 := QR D12.out
     have d5 := (Qe D5.out 0).trans (rfl : _ = some (Value.slice (some ad0) l0_0.length c0_0))
     have d11 := (Qe D11.out 1).trans (rfl : _ = some (Value.int .i64 (Qh l0_2 a3).f1))
     have d11' := (Qe D11.out 2).trans (rfl : _ = some (Value.int .i64 (Qh l0_2 a3).f2))
     have d12 := (Qe D12.out 2).trans (rfl : _ = some (Value.int .i64 (Qh l0_2 a4).f2))
     obtain ⟨x2, hx2⟩ : ∃ x, x = (Qh l0_2 a3).f2 := ⟨_, rfl⟩
     obtain ⟨y2, hy2⟩ : ∃ x, x = (Qh l0_2 a4).f2 := ⟨_, rfl⟩
     obtain ⟨via, hvia⟩ : ∃ x, x = rd l0_0 (Qh l0_2 a3).f1 := ⟨_, rfl⟩
     obtain ⟨x1, hx1⟩ : ∃ x, x = (Qh l0_2 a3).f1 := ⟨_, rfl⟩
     rw [← hvia] at n0 HSTEP
     rw [← hx1] at d11 n0 hv0 hv1 hb0
     rw [← hx2] at d11' HSTEP
     rw [← hy2] at d12 HSTEP
     have HX := Qf.mk (And.intro hx2 (And.intro hy2 (And.intro hvia hx1)))
     clear hx2 hy2 hvia hx1
     have hkd : decide ((k : Int) < (l1.length : Int)) = true := decide_eq_true (by omega)
     have hkd' : decide (k < l1.length) = true := decide_eq_true hk
     by_cases h0 : t.f0 = x2
     ·have h0b : (t.f0 == x2) = true := beq_iff_eq.2 h0
      have h0c : (t.f0 != x2) = false := bne_eq_false_iff_eq.2 h0
      have H0 := Qf.mk h0
      clear h0
      by_cases h1 : t.f1 = via
      ·have h1b : (t.f1 == via) = true := beq_iff_eq.2 h1
       have h1c : (t.f1 != via) = false := bne_eq_false_iff_eq.2 h1
       have H1 := Qf.mk h1
       clear h1
       cases h3 : t.f3 with
       | true =>
        rw [h3] at t3
        have H3 := Qf.mk h3
        clear h3
        by_cases h2 : t.f2 = y2
        ·have h2b : (t.f2 == y2) = true := beq_iff_eq.2 h2
         have H2 := Qf.mk h2
         clear h2
         go_wp2
         go_quiet (fail)
         cases may <;>
         ·go_wp2
          go_roundg (gk - 1)
          case measure => have := HK.out; omega
          case rel => exact ⟨k + 1, true, true, by go_num, rfl, rfl, ⟨by have := HK.out; omega⟩, ⟨by rw [HSTEP.out, if_neg (by simp [H0.out, H1.out]), if_pos H3.out, decide_eq_true H2.out, HX.out.1, HX.out.2.1, HX.out.2.2.1]; rfl⟩, ⟨(by repeat (first | (with_reducible first | exact HB.out | apply Qi | apply Qa | apply Qj) | exact HB.out | exact HBR.out | refine Qo HB.out ?_))⟩⟩
        ·have h2b : (t.f2 == y2) = false := beq_eq_false_iff_ne.2 h2
         have H2 := Qf.mk h2
         clear h2
         go_wp2
         go_quiet (fail)
         cases may <;>
         ·go_wp2
          go_roundg (gk - 1)
          case measure => have := HK.out; omega
          case rel => exact ⟨k + 1, true, _, by go_num, rfl, rfl, ⟨by have := HK.out; omega⟩, ⟨by rw [HSTEP.out, if_neg (by simp [H0.out, H1.out]), if_pos H3.out, decide_eq_false H2.out, HX.out.1, HX.out.2.1, HX.out.2.2.1]; rfl⟩, ⟨(by repeat (first | (with_reducible first | exact HB.out | apply Qi | apply Qa | apply Qj) | exact HB.out | exact HBR.out | refine Qo HB.out ?_))⟩⟩
       | false =>
        rw [h3] at t3
        have H3 := Qf.mk h3
        clear h3
        by_cases h2 : t.f2 = y2
        ·have h2b : (t.f2 == y2) = true := beq_iff_eq.2 h2
         have H2 := Qf.mk h2
         clear h2
         go_wp2
         go_quiet (fail)
         go_wp2
         go_ret
         exact ⟨congrArg (fun b => Ending.returned (Value.bool b)) (by rw [HSTEP.out, if_neg (by simp [H0.out, H1.out]), if_neg (by rw [H3.out]; simp), if_pos H2.out]), Qo HBW.out (by repeat (first | (with_reducible first | exact HB.out | apply Qi | apply Qa | apply Qj) | exact HB.out | exact HBR.out | refine Qo HB.out ?_))⟩
        ·have h2b : (t.f2 == y2) = false := beq_eq_false_iff_ne.2 h2
         have H2 := Qf.mk h2
         clear h2
         go_wp2
         go_quiet (fail)
         go_wp2
         go_roundg (gk - 1)
         case measure => have := HK.out; omega
         case rel => exact ⟨k + 1, _, _, by go_num, rfl, rfl, ⟨by have := HK.out; omega⟩, ⟨by rw [HSTEP.out, if_neg (by simp [H0.out, H1.out]), if_neg (by rw [H3.out]; simp), if_neg H2.out, HX.out.1, HX.out.2.1, HX.out.2.2.1]⟩, ⟨(by repeat (first | (with_reducible first | exact HB.out | apply Qi | apply Qa | apply Qj) | exact HB.out | exact HBR.out | refine Qo HB.out ?_))⟩⟩
      ·have h1b : (t.f1 == via) = false := beq_eq_false_iff_ne.2 h1
       have h1c : (t.f1 != via) = true := bne_iff_ne.2 h1
       have H1 := Qf.mk h1
       clear h1
       go_wp2
       go_quiet (fail)
       go_wp2
       go_roundg (gk - 1)
       case measure => have := HK.out; omega
       case rel => exact ⟨k + 1, _, _, by go_num, rfl, rfl, ⟨by have := HK.out; omega⟩, ⟨by rw [HSTEP.out, if_pos (Or.inr H1.out), HX.out.1, HX.out.2.1, HX.out.2.2.1]⟩, ⟨(by repeat (first | (with_reducible first | exact HB.out | apply Qi | apply Qa | apply Qj) | exact HB.out | exact HBR.out | refine Qo HB.out ?_))⟩⟩
     ·have h0b : (t.f0 == x2) = false := beq_eq_false_iff_ne.2 h0
      have h0c : (t.f0 != x2) = true := bne_iff_ne.2 h0
      have H0 := Qf.mk h0
      clear h0
      go_wp2
      go_quiet (fail)
      go_wp2
      go_roundg (gk - 1)
      case measure => have := HK.out; omega
      case rel => exact ⟨k + 1, _, _, by go_num, rfl, rfl, ⟨by have := HK.out; omega⟩, ⟨by rw [HSTEP.out, if_pos (Or.inl H0.out), HX.out.1, HX.out.2.1, HX.out.2.2.1]⟩, ⟨(by repeat (first | (with_reducible first | exact HB.out | apply Qi | apply Qa | apply Qj) | exact HB.out | exact HBR.out | refine Qo HB.out ?_))⟩⟩
    ·have hkd : decide ((k : Int) < (l1.length : Int)) = false := decide_eq_false (by omega)
     have hkd' : decide (k < l1.length) = false := decide_eq_false hk
     have hend : l1.drop k = [] := List.drop_eq_nil_of_le (by omega)
     have hfin := HS.out
     rw [hend] at hfin
     have HF := Qf.mk hfin
     clear hend hfin HS
     cases must <;>
     ·go_wp2
      go_ret
      exact ⟨congrArg (fun b => Ending.returned (Value.bool b)) (by rw [← HF.out]; rfl), Qo HBW.out HB.out⟩


/-! ### QJ: function 38 -/
def QJ.l0 : Nat → List (List Int) → List (S58) → Int → Int → Option ((List (List Int)))
 | 0, _, _, _, _ => none
 | k + 1, x3, x11, x12, x13 => if x13 < x12 then (if 0 ≤ x13 then (if x13 < (x11.length : Int) then (if 0 ≤ ((Qh x11 x13).f0) then (if ((Qh x11 x13).f0) < (x3.length : Int) then (if (rd_L7 x3 ((Qh x11 x13).f0)).length < 17592186044416 then (QJ.l0 k (x3.set (((Qh x11 x13).f0) : Int).toNat ((rd_L7 x3 ((Qh x11 x13).f0)) ++ [x13])) x11 x12 (wrap64 (x13 + 1))) else (none)) else (none)) else (none)) else (none)) else (none)) else (some x3)
def QJ.f (k : Nat) (l0_0 : List Int) (l0_1 : List (S158)) (l0_2 : List (S58)) : Option ((List (List Int))) := if 0 ≤ (l0_0.length : Int) then (if ((l0_0.length : Int) : Int).toNat ≤ 11728124029610 then (QJ.l0 k (List.replicate ((l0_0.length : Int) : Int).toNat []) l0_2 (l0_2.length : Int) 0) else (none)) else (none)
theorem QJ.mono_l : ∀ k, (∀ y0 y1 y2 y3, LeO (QJ.l0 k y0 y1 y2 y3) (QJ.l0 (k + 1) y0 y1 y2 y3))
 | 0 => fun _ _ _ _ r h => by simp [QJ.l0] at h
 | k + 1 => by
  have ih0 := QJ.mono_l k
  ·intro y0 y1 y2 y3
   unfold QJ.l0
   repeat' first
   | (with_reducible exact ih0 _ _ _ _)
   | (with_reducible exact LeO.refl _)
   | (with_reducible exact LeO.none _)
   | (with_reducible refine LeO.ite ?_ ?_)
   | (with_reducible refine LeO.bind ?_ (fun _ => ?_))
   | exact ih0 _ _ _ _
   | exact LeO.none _
   | refine LeO.ite ?_ ?_
   | refine LeO.bind ?_ (fun _ => ?_)
theorem QJ.mono : ∀ a0 a1 a2 k, LeO (QJ.f k a0 a1 a2) (QJ.f (k + 1) a0 a1 a2) := by
 intro a0 a1 a2 k
 have ih0 := QJ.mono_l k
 unfold QJ.f
 repeat' first
   | (with_reducible exact ih0 _ _ _ _)
   | (with_reducible exact LeO.refl _)
   | (with_reducible exact LeO.none _)
   | (with_reducible refine LeO.ite ?_ ?_)
   | (with_reducible refine LeO.bind ?_ (fun _ => ?_))
   | exact ih0 _ _ _ _
   | exact LeO.none _
   | refine LeO.ite ?_ ?_
   | refine LeO.bind ?_ (fun _ => ?_)
def QJ.T5 : Bool × List (List Nat × List Nat) := (true, [([], []), ([], []), ([1], [1]), ([], []), ([], []), ([4], [4]), ([3, 5], [3, 5]), ([6], [6]), ([], []), ([8], [8]), ([7, 9], [7, 9]), ([0, 2, 0, 1, 2, 3, 4, 5, 6, 7, 8, 9, 10], [0, 2]), ([11, 10, 10, 0, 1, 2, 3, 4, 5, 6, 7, 8, 9, 10], [10, 11])])
def QJ.B5 : List Nat := [0, 0, 2, 0, 0, 16, 56, 120, 0, 256, 1016, 2047, 4095]
theorem QJ.tab5 : rtab .any (opsOf Try.f38 5) = QJ.T5 := by kernel_rfl
theorem QJ.bits5 : waitsOk QJ.T5.2 QJ.B5 = true := by kernel_rfl
set_option maxHeartbeats 8000000 in
set_option maxRecDepth 100000 in
theorem QJ.calls (k : Nat) (A0_0 : Option Addr) (c0_0 : Nat) (l0_0 : List Int) (A0_1 : Option Addr) (c0_1 : Nat) (l0_1 : List (S158)) (A0_2 : Option Addr) (c0_2 : Nat) (l0_2 : List (S58)) (r : List (List Int)) (w : World) (hr0_0 : Kd.C (Kd.int .i64) w A0_0 l0_0.length l0_0) (hc0_0 : l0_0.length ≤ c0_0) (hr0_1 : Kd.C k158 w A0_1 l0_1.length l0_1) (hc0_1 : l0_1.length ≤ c0_1) (hr0_2 : Kd.C k58 w A0_2 l0_2.length l0_2) (hc0_2 : l0_2.length ≤ c0_2) (h : QJ.f k l0_0 l0_1 l0_2 = some r) :
  Calls Try.prog 38 #[.agg #[.slice A0_0 l0_0.length c0_0, .slice A0_1 l0_1.length c0_1, .slice A0_2 l0_2.length c0_2]] w fun e w' => ∃ v0_ : Value, e = .returned (v0_) ∧ Kd.S (Kd.slice 3 (Kd.int .i64)) 33 w' w.heap.size (fun _ => True) v0_ r ∧ Below w.heap.size w w' := by
 have hu37 := Try.underlying37
 have hu58 := Try.underlying58
 have HR0_0 := Qf.mk hr0_0
 have HC0_0 := Qf.mk hc0_0
 clear hr0_0 hc0_0
 have HR0_1 := Qf.mk hr0_1
 have HC0_1 := Qf.mk hc0_1
 clear hr0_1 hc0_1
 have HR0_2 := Qf.mk hr0_2
 have HC0_2 := Qf.mk hc0_2
 clear hr0_2 hc0_2
 have HB := Qf.mk (Below.refl w.heap.size w)
 have H : (if 0 ≤ (l0_0.length : Int) then (if ((l0_0.length : Int) : Int).toNat ≤ 11728124029610 then (QJ.l0 k (List.replicate ((l0_0.length : Int) : Int).toNat []) l0_2 (l0_2.length : Int) 0) else (none)) else (none)) = some r := h
 clear h
 by_cases c2 : 0 ≤ (l0_0.length : Int)
 ·rw [if_pos c2] at H
  have c2b0 := eq_true c2
  have c2b1 : decide (0 ≤ (l0_0.length : Int)) = true := decide_eq_true c2
  clear c2
  by_cases c3 : ((l0_0.length : Int) : Int).toNat ≤ 11728124029610
  ·rw [if_pos c3] at H
   have c3b0 := eq_true c3
   have c3b1 : decide (((l0_0.length : Int) : Int).toNat ≤ 11728124029610) = true := decide_eq_true c3
   clear c3
   obtain ⟨y111, hy111⟩ : ∃ y_ : List (List Int), y_ = (List.replicate ((l0_0.length : Int) : Int).toNat []) := ⟨_, rfl⟩
   replace H : (QJ.l0 k y111 l0_2 (l0_2.length : Int) 0) = some r := by first | (rw [hy111]; with_reducible exact H) | (have H2_ := (Option.bind_some _ _).symm.trans H; rw [hy111]; with_reducible exact H2_) | (have H2_ := (Option.bind_some _ _).symm.trans H; with_reducible exact H2_) | with_reducible exact H | (rw [hy111]; exact H) | exact H
   have Ny111 := Qf.mk hy111
   clear hy111
   have H' := Qf.mk H
   clear H
   go_enter Try.func38, Try.ntmps38
   go_wp2_with (first | ((with_reducible refine QM (N := 1) rfl ?_); refine QI ?hg (N := 1) ?hd (cs := #[.slice A0_0 l0_0.length c0_0, .slice A0_1 l0_1.length c0_1, .slice A0_2 l0_2.length c0_2]) (t := 37) ?hr ?_; (case hd => rfl); (case hg => rfl); (case hr => first | (go_simp; done) | (go_simp; rfl)); intro gb110 hg w4 hbox hb; have n0_ := Qf.mk (Qo (by repeat (first | (with_reducible first | exact HB.out | apply Qi | apply Qa | apply Qj) | exact HB.out)) hb); have n1_ := Qf.mk (hbox); have n2_ := Qf.mk ((by rw [hg]; exact (Qp (by repeat (first | (with_reducible first | exact HB.out | apply Qi | apply Qa | apply Qj) | exact HB.out))) : w.heap.size ≤ gb110)); have n3_ := Qf.mk ((by rw [hg]; exact (Qp (by repeat (first | (with_reducible first | exact HB.out | apply Qi | apply Qa | apply Qj) | exact HB.out))) : w.heap.size ≤ gb110)); clear HB; have HB := n0_; have BK110 := n1_; have GW110 := n2_; have GE110 := n3_; clear n0_ n1_ n2_ n3_; clear hb hbox hg; have hcz5_0 : w4.cell? ⟨gb110, 0, none⟩ = some (.slice A0_0 l0_0.length c0_0) := (Qe BK110.out 0).trans rfl; have hcz5_1 : w4.cell? ⟨gb110, 1, none⟩ = some (.slice A0_1 l0_1.length c0_1) := (Qe BK110.out 1).trans rfl; have hcz5_2 : w4.cell? ⟨gb110, 2, none⟩ = some (.slice A0_2 l0_2.length c0_2) := (Qe BK110.out 2).trans rfl; have hfz5_0 := Qc BK110.out 0; have hfz5_1 := Qc BK110.out 1; have hfz5_2 := Qc BK110.out 2) | ((with_reducible refine QM (N := 9) rfl ?_); refine Kd.S_make (Kd.slice 3 (Kd.int .i64)) _ 33 rfl (N := 9) rfl 87 _ _ rfl (l0_0.length : Int) rfl rfl Try.underlying87 (.slice none 0 0) 24 info33 rfl (by decide) (by omega) [] (ok := fun _ => True) (okp := fun _ => True) ⟨_, rfl, Kd.R_nil _ _ _ _ _⟩ (fun _ hk => hk) trivial (of_decide_eq_true (by first | (with_reducible assumption) | assumption)) (Nat.le_trans (Nat.mul_le_mul_right _ (of_decide_eq_true (by first | (with_reducible assumption) | assumption) : (l0_0.length : Int).toNat ≤ 11728124029610)) (by omega)) (Below.refl _ _) (Nat.le_refl _) ?_; intro v112 w6 ho7 hb hg_ hnew_; clear hg_ hnew_; (first | rw [← Ny111.out] at ho7 | (simp only [Int.reduceToNat] at ho7; rw [← Ny111.out] at ho7)); have n0_ := Qf.mk (Kd.S_lower ho7 (Qp (by repeat (first | (with_reducible first | exact HB.out | apply Qi | apply Qa | apply Qj | refine Qk ?_ GE110.out) | exact HB.out)))); have n1_ := Qf.mk (QF (g := gb110) (o := .cells #[.slice A0_0 l0_0.length c0_0, .slice A0_1 l0_1.length c0_1, .slice A0_2 l0_2.length c0_2] 37 (0, 0)) (by (with_reducible repeat (first | refine Qd ?_ _ | refine Qg ?_ | refine Qb ?_ _)); exact BK110.out) hb); have n2_ := Qf.mk (Qo (by repeat (first | (with_reducible first | exact HB.out | apply Qi | apply Qa | apply Qj | refine Qk ?_ GE110.out) | exact HB.out)) hb); clear BK110; clear HB; have HO113 := n0_; have BK110 := n1_; have HB := n2_; clear n0_ n1_ n2_; clear hb ho7; have hcz8_0 : w6.cell? ⟨gb110, 0, none⟩ = some (.slice A0_0 l0_0.length c0_0) := (Qe BK110.out 0).trans rfl; have hcz8_1 : w6.cell? ⟨gb110, 1, none⟩ = some (.slice A0_1 l0_1.length c0_1) := (Qe BK110.out 1).trans rfl; have hcz8_2 : w6.cell? ⟨gb110, 2, none⟩ = some (.slice A0_2 l0_2.length c0_2) := (Qe BK110.out 2).trans rfl; have hfz8_0 := Qc BK110.out 0; have hfz8_1 := Qc BK110.out 1; have hfz8_2 := Qc BK110.out 2))
   go_loopg [13] k (fun kq v13 w' => ∃ (x3_1 : List (List Int)) (x13_1 : Int), v13 = .int .i64 x13_1 ∧ Qf (QJ.l0 kq x3_1 l0_2 (l0_2.length : Int) x13_1 = some r) ∧ Qf (kq ≤ k) ∧ Qf (Kd.S (Kd.slice 3 (Kd.int .i64)) 33 w' w.heap.size (fun _ => True) v112 x3_1) ∧ Qf (w'.heap[gb110]? = some (.cells #[(.slice A0_0 l0_0.length c0_0), (.slice A0_1 l0_1.length c0_1), (.slice A0_2 l0_2.length c0_2)] 37 (0, 0))) ∧ Qf (Below w.heap.size w w'))
   case atStart => exact ⟨(y111), (0), (by first | rfl | (simp; done) | (simp [*]; done)), H', ⟨Nat.le_refl _⟩, ⟨by (with_reducible repeat (first | apply Kd.S_alloc | apply Kd.S_drewN | apply Kd.S_drew)); exact HO113.out⟩, ⟨by (with_reducible repeat (first | refine Qd ?_ _ | refine Qg ?_ | refine Qb ?_ _)); exact BK110.out⟩, ⟨by repeat (first | (with_reducible first | exact HB.out | apply Qi | apply Qa | apply Qj | refine Qk ?_ GE110.out) | exact HB.out)⟩⟩
   case round =>
    clear H'
    try clear c2
    try clear c2b0
    try clear c2b1
    try clear p2
    try clear c3
    try clear c3b0
    try clear c3b1
    try clear hcz5_0
    try clear hcz5_1
    try clear hcz5_2
    try clear hcz8_0
    try clear hcz8_1
    try clear hcz8_2
    try clear hfz5_0
    try clear hfz5_1
    try clear hfz5_2
    try clear hfz8_0
    try clear hfz8_1
    try clear hfz8_2
    obtain ⟨x3_1, x13_1, rfl, HA, HK1, HO_3, BK110, HB⟩ := hrel
    cases gk with
    | zero => exact absurd HA.out (by simp [QJ.l0])
    | succ k1 =>
     have H := HA.out
     clear HA
     simp only [QJ.l0] at H
     by_cases c9 : x13_1 < (l0_2.length : Int)
     ·rw [if_pos c9] at H
      have c9b0 : decide (x13_1 < (l0_2.length : Int)) = true := decide_eq_true c9
      clear c9
      by_cases c10 : 0 ≤ x13_1
      ·rw [if_pos c10] at H
       have c10b0 : decide (0 ≤ x13_1) = true := decide_eq_true c10
       clear c10
       by_cases c11 : x13_1 < (l0_2.length : Int)
       ·rw [if_pos c11] at H
        have c11b0 : decide (x13_1 < (l0_2.length : Int)) = true := decide_eq_true c11
        clear c11
        by_cases c12 : 0 ≤ ((Qh l0_2 x13_1).f0)
        ·rw [if_pos c12] at H
         have c12b0 : decide (0 ≤ ((Qh l0_2 x13_1).f0)) = true := decide_eq_true c12
         clear c12
         by_cases c13 : ((Qh l0_2 x13_1).f0) < (x3_1.length : Int)
         ·rw [if_pos c13] at H
          have c13b0 : decide (((Qh l0_2 x13_1).f0) < (x3_1.length : Int)) = true := decide_eq_true c13
          clear c13
          by_cases c14 : (rd_L7 x3_1 ((Qh l0_2 x13_1).f0)).length < 17592186044416
          ·rw [if_pos c14] at H
           have LMc14 := Qf.mk c14
           clear c14
           obtain ⟨y117, hy117⟩ : ∃ y_ : List Int, y_ = ((rd_L7 x3_1 ((Qh l0_2 x13_1).f0)) ++ [x13_1]) := ⟨_, rfl⟩
           replace H : (QJ.l0 k1 (x3_1.set (((Qh l0_2 x13_1).f0) : Int).toNat y117) l0_2 (l0_2.length : Int) (wrap64 (x13_1 + 1))) = some r := by first | (rw [hy117]; with_reducible exact H) | (have H2_ := (Option.bind_some _ _).symm.trans H; rw [hy117]; with_reducible exact H2_) | (have H2_ := (Option.bind_some _ _).symm.trans H; with_reducible exact H2_) | with_reducible exact H | (rw [hy117]; exact H) | exact H
           have Ny117 := Qf.mk hy117
           clear hy117
           obtain ⟨y120, hy120⟩ : ∃ y_ : List (List Int), y_ = (x3_1.set (((Qh l0_2 x13_1).f0) : Int).toNat y117) := ⟨_, rfl⟩
           replace H : (QJ.l0 k1 y120 l0_2 (l0_2.length : Int) (wrap64 (x13_1 + 1))) = some r := by first | (rw [hy120]; with_reducible exact H) | (have H2_ := (Option.bind_some _ _).symm.trans H; rw [hy120]; with_reducible exact H2_) | (have H2_ := (Option.bind_some _ _).symm.trans H; with_reducible exact H2_) | with_reducible exact H | (rw [hy120]; exact H) | exact H
           have Ny120 := Qf.mk hy120
           clear hy120
           have H' := Qf.mk H
           clear H
           have p114 : 0 ≤ (x13_1 : Int) := of_decide_eq_true (by first | (with_reducible assumption) | assumption)
           have q114 : x13_1 < (l0_2.length : Int) := of_decide_eq_true (by first | (with_reducible assumption) | assumption)
           obtain ⟨ad114, A114_5, c114_5, e114, hx114_0, hx114_1, hx114_2, hx114_3, hx114_4, hx114_5, hx114_6, hx114_7, hl114_5, hi114_5⟩ := at_T58 HR0_2.out x13_1 p114 q114
           cases e114
           replace hx114_0 := (HB.out.cell (World.block_lt_of_cell? w _ hx114_0)).trans hx114_0
           replace hx114_1 := (HB.out.cell (World.block_lt_of_cell? w _ hx114_1)).trans hx114_1
           replace hx114_2 := (HB.out.cell (World.block_lt_of_cell? w _ hx114_2)).trans hx114_2
           replace hx114_3 := (HB.out.cell (World.block_lt_of_cell? w _ hx114_3)).trans hx114_3
           replace hx114_4 := (HB.out.cell (World.block_lt_of_cell? w _ hx114_4)).trans hx114_4
           replace hx114_5 := (HB.out.cell (World.block_lt_of_cell? w _ hx114_5)).trans hx114_5
           replace hx114_6 := (HB.out.cell (World.block_lt_of_cell? w _ hx114_6)).trans hx114_6
           replace hx114_7 := (HB.out.cell (World.block_lt_of_cell? w _ hx114_7)).trans hx114_7
           have HR114_5 := Qf.mk hi114_5
           have HC114_5 := Qf.mk hl114_5
           clear hi114_5 hl114_5
           replace p114 := eq_true p114
           replace q114 := eq_true q114
           try go_wp2_with (first | ((with_reducible refine QM (N := 5) rfl ?_); refine QI ?hg (N := 5) ?hd (cs := #[.int .i64 0, .int .i64 0, .int .i64 0, .int .i64 0, .int .i64 0, .slice none 0 0, .int .i64 0, .int .i64 0]) (t := 58) ?hr ?_; (case hd => rfl); (case hg => rfl); (case hr => first | (go_simp; done) | (go_simp; rfl)); intro gb115 hg w16 hbox hb; have n0_ := Qf.mk (Kd.S_below (by (with_reducible repeat (first | apply Kd.S_alloc | apply Kd.S_drewN | apply Kd.S_drew)); exact HO_3.out) hb); have n1_ := Qf.mk (QF (g := gb110) (o := .cells #[.slice A0_0 l0_0.length c0_0, .slice A0_1 l0_1.length c0_1, .slice (some ad114) l0_2.length c0_2] 37 (0, 0)) (by (with_reducible repeat (first | refine Qd ?_ _ | refine Qg ?_ | refine Qb ?_ _)); exact BK110.out) hb); have n2_ := Qf.mk (Qo (by repeat (first | (with_reducible first | exact HB.out | apply Qi | apply Qa | apply Qj | refine Qk ?_ GE110.out) | exact HB.out)) hb); have n3_ := Qf.mk (hbox); have n4_ := Qf.mk ((by rw [hg]; exact (Qp (by repeat (first | (with_reducible first | exact HB.out | apply Qi | apply Qa | apply Qj | refine Qk ?_ GE110.out) | exact HB.out))) : w.heap.size ≤ gb115)); have n5_ := Qf.mk ((by rw [hg]; exact (Qp (by repeat (first | (with_reducible first | exact HB.out | apply Qi | apply Qa | apply Qj | refine Qk ?_ GE110.out) | exact HB.out))) : w.heap.size ≤ gb115)); have n6_ := Qf.mk ((by rw [hg]; exact Nat.ne_of_lt (QR (g := gb110) (o := .cells #[.slice A0_0 l0_0.length c0_0, .slice A0_1 l0_1.length c0_1, .slice (some ad114) l0_2.length c0_2] 37 (0, 0)) (by (with_reducible repeat (first | refine Qd ?_ _ | refine Qg ?_ | refine Qb ?_ _)); exact BK110.out)) : gb110 ≠ gb115)); have n7_ := Qf.mk ((by rw [hg]; exact Nat.ne_of_gt (QR (g := gb110) (o := .cells #[.slice A0_0 l0_0.length c0_0, .slice A0_1 l0_1.length c0_1, .slice (some ad114) l0_2.length c0_2] 37 (0, 0)) (by (with_reducible repeat (first | refine Qd ?_ _ | refine Qg ?_ | refine Qb ?_ _)); exact BK110.out)) : gb115 ≠ gb110)); clear HO_3; clear BK110; clear HB; have HO_3 := n0_; have BK110 := n1_; have HB := n2_; have BK115 := n3_; have GW115 := n4_; have GE115 := n5_; have NB110_115 := n6_; have NB115_110 := n7_; clear n0_ n1_ n2_ n3_ n4_ n5_ n6_ n7_; clear hb hbox hg; have hnb17 := NB115_110.out; have hnc17 := NB110_115.out; have hcz18_0 : w16.cell? ⟨gb115, 0, none⟩ = some (.int .i64 0) := (Qe BK115.out 0).trans rfl; have hcz18_1 : w16.cell? ⟨gb115, 1, none⟩ = some (.int .i64 0) := (Qe BK115.out 1).trans rfl; have hcz18_2 : w16.cell? ⟨gb115, 2, none⟩ = some (.int .i64 0) := (Qe BK115.out 2).trans rfl; have hcz18_3 : w16.cell? ⟨gb115, 3, none⟩ = some (.int .i64 0) := (Qe BK115.out 3).trans rfl; have hcz18_4 : w16.cell? ⟨gb115, 4, none⟩ = some (.int .i64 0) := (Qe BK115.out 4).trans rfl; have hcz18_5 : w16.cell? ⟨gb115, 5, none⟩ = some (.slice none 0 0) := (Qe BK115.out 5).trans rfl; have hcz18_6 : w16.cell? ⟨gb115, 6, none⟩ = some (.int .i64 0) := (Qe BK115.out 6).trans rfl; have hcz18_7 : w16.cell? ⟨gb115, 7, none⟩ = some (.int .i64 0) := (Qe BK115.out 7).trans rfl; have hfz18_0 := Qc BK115.out 0; have hfz18_1 := Qc BK115.out 1; have hfz18_2 := Qc BK115.out 2; have hfz18_3 := Qc BK115.out 3; have hfz18_4 := Qc BK115.out 4; have hfz18_5 := Qc BK115.out 5; have hfz18_6 := Qc BK115.out 6; have hfz18_7 := Qc BK115.out 7))
           have n0_ : Qf (Kd.S (Kd.slice 3 (Kd.int .i64)) 33 ((((((((w16.setCell ⟨gb115, 0, none⟩ (.int .i64 ((Qh l0_2 x13_1).f0))).setCell ⟨gb115, 1, none⟩ (.int .i64 ((Qh l0_2 x13_1).f1))).setCell ⟨gb115, 2, none⟩ (.int .i64 ((Qh l0_2 x13_1).f2))).setCell ⟨gb115, 3, none⟩ (.int .i64 ((Qh l0_2 x13_1).f3))).setCell ⟨gb115, 4, none⟩ (.int .i64 ((Qh l0_2 x13_1).f4))).setCell ⟨gb115, 5, none⟩ (.slice A114_5 ((Qh l0_2 x13_1).f5.f0).length c114_5)).setCell ⟨gb115, 6, none⟩ (.int .i64 ((Qh l0_2 x13_1).f5.f1))).setCell ⟨gb115, 7, none⟩ (.int .i64 ((Qh l0_2 x13_1).f5.f2))) w.heap.size (fun _ => True) v112 x3_1) := ⟨by (with_reducible repeat (first | apply Kd.S_alloc | apply Kd.S_drewN | apply Kd.S_drew)); exact Kd.S_mono (Kd.S_far (p := ⟨gb115, 7, none⟩) (Kd.S_far (p := ⟨gb115, 6, none⟩) (Kd.S_far (p := ⟨gb115, 5, none⟩) (Kd.S_far (p := ⟨gb115, 4, none⟩) (Kd.S_far (p := ⟨gb115, 3, none⟩) (Kd.S_far (p := ⟨gb115, 2, none⟩) (Kd.S_far (p := ⟨gb115, 1, none⟩) (Kd.S_far (p := ⟨gb115, 0, none⟩) (Kd.S_types HO_3.out BK115.out (by decide)) (fun _ hk => hk.2) (.int .i64 ((Qh l0_2 x13_1).f0))) (fun _ hk => hk.2) (.int .i64 ((Qh l0_2 x13_1).f1))) (fun _ hk => hk.2) (.int .i64 ((Qh l0_2 x13_1).f2))) (fun _ hk => hk.2) (.int .i64 ((Qh l0_2 x13_1).f3))) (fun _ hk => hk.2) (.int .i64 ((Qh l0_2 x13_1).f4))) (fun _ hk => hk.2) (.slice A114_5 ((Qh l0_2 x13_1).f5.f0).length c114_5)) (fun _ hk => hk.2) (.int .i64 ((Qh l0_2 x13_1).f5.f1))) (fun _ hk => hk.2) (.int .i64 ((Qh l0_2 x13_1).f5.f2))) (fun _ hk => trivial)⟩
           have n1_ : Qf (((((((((w16.setCell ⟨gb115, 0, none⟩ (.int .i64 ((Qh l0_2 x13_1).f0))).setCell ⟨gb115, 1, none⟩ (.int .i64 ((Qh l0_2 x13_1).f1))).setCell ⟨gb115, 2, none⟩ (.int .i64 ((Qh l0_2 x13_1).f2))).setCell ⟨gb115, 3, none⟩ (.int .i64 ((Qh l0_2 x13_1).f3))).setCell ⟨gb115, 4, none⟩ (.int .i64 ((Qh l0_2 x13_1).f4))).setCell ⟨gb115, 5, none⟩ (.slice A114_5 ((Qh l0_2 x13_1).f5.f0).length c114_5)).setCell ⟨gb115, 6, none⟩ (.int .i64 ((Qh l0_2 x13_1).f5.f1))).setCell ⟨gb115, 7, none⟩ (.int .i64 ((Qh l0_2 x13_1).f5.f2))).heap[gb110]? = some (.cells #[.slice A0_0 l0_0.length c0_0, .slice A0_1 l0_1.length c0_1, .slice (some ad114) l0_2.length c0_2] 37 (0, 0))) := ⟨by (with_reducible repeat (first | refine Qd ?_ _ | refine Qg ?_ | refine Qb ?_ _)); refine Qv ?_ NB110_115.out _; (with_reducible repeat (first | refine Qd ?_ _ | refine Qg ?_ | refine Qb ?_ _)); refine Qv ?_ NB110_115.out _; (with_reducible repeat (first | refine Qd ?_ _ | refine Qg ?_ | refine Qb ?_ _)); refine Qv ?_ NB110_115.out _; (with_reducible repeat (first | refine Qd ?_ _ | refine Qg ?_ | refine Qb ?_ _)); refine Qv ?_ NB110_115.out _; (with_reducible repeat (first | refine Qd ?_ _ | refine Qg ?_ | refine Qb ?_ _)); refine Qv ?_ NB110_115.out _; (with_reducible repeat (first | refine Qd ?_ _ | refine Qg ?_ | refine Qb ?_ _)); refine Qv ?_ NB110_115.out _; (with_reducible repeat (first | refine Qd ?_ _ | refine Qg ?_ | refine Qb ?_ _)); refine Qv ?_ NB110_115.out _; (with_reducible repeat (first | refine Qd ?_ _ | refine Qg ?_ | refine Qb ?_ _)); refine Qv ?_ NB110_115.out _; (with_reducible repeat (first | refine Qd ?_ _ | refine Qg ?_ | refine Qb ?_ _)); exact BK110.out⟩
           have n2_ : Qf (((((((((w16.setCell ⟨gb115, 0, none⟩ (.int .i64 ((Qh l0_2 x13_1).f0))).setCell ⟨gb115, 1, none⟩ (.int .i64 ((Qh l0_2 x13_1).f1))).setCell ⟨gb115, 2, none⟩ (.int .i64 ((Qh l0_2 x13_1).f2))).setCell ⟨gb115, 3, none⟩ (.int .i64 ((Qh l0_2 x13_1).f3))).setCell ⟨gb115, 4, none⟩ (.int .i64 ((Qh l0_2 x13_1).f4))).setCell ⟨gb115, 5, none⟩ (.slice A114_5 ((Qh l0_2 x13_1).f5.f0).length c114_5)).setCell ⟨gb115, 6, none⟩ (.int .i64 ((Qh l0_2 x13_1).f5.f1))).setCell ⟨gb115, 7, none⟩ (.int .i64 ((Qh l0_2 x13_1).f5.f2))).heap[gb115]? = some (.cells #[.int .i64 ((Qh l0_2 x13_1).f0), .int .i64 ((Qh l0_2 x13_1).f1), .int .i64 ((Qh l0_2 x13_1).f2), .int .i64 ((Qh l0_2 x13_1).f3), .int .i64 ((Qh l0_2 x13_1).f4), .slice A114_5 ((Qh l0_2 x13_1).f5.f0).length c114_5, .int .i64 ((Qh l0_2 x13_1).f5.f1), .int .i64 ((Qh l0_2 x13_1).f5.f2)] 58 (0, 0))) := ⟨by (with_reducible repeat (first | refine Qd ?_ _ | refine Qg ?_ | refine Qb ?_ _)); refine Qy (cs := #[.int .i64 ((Qh l0_2 x13_1).f0), .int .i64 ((Qh l0_2 x13_1).f1), .int .i64 ((Qh l0_2 x13_1).f2), .int .i64 ((Qh l0_2 x13_1).f3), .int .i64 ((Qh l0_2 x13_1).f4), .slice A114_5 ((Qh l0_2 x13_1).f5.f0).length c114_5, .int .i64 ((Qh l0_2 x13_1).f5.f1), .int .i64 0]) ?_ 7 _ rfl; (with_reducible repeat (first | refine Qd ?_ _ | refine Qg ?_ | refine Qb ?_ _)); refine Qy (cs := #[.int .i64 ((Qh l0_2 x13_1).f0), .int .i64 ((Qh l0_2 x13_1).f1), .int .i64 ((Qh l0_2 x13_1).f2), .int .i64 ((Qh l0_2 x13_1).f3), .int .i64 ((Qh l0_2 x13_1).f4), .slice A114_5 ((Qh l0_2 x13_1).f5.f0).length c114_5, .int .i64 0, .int .i64 0]) ?_ 6 _ rfl; (with_reducible repeat (first | refine Qd ?_ _ | refine Qg ?_ | refine Qb ?_ _)); refine Qy (cs := #[.int .i64 ((Qh l0_2 x13_1).f0), .int .i64 ((Qh l0_2 x13_1).f1), .int .i64 ((Qh l0_2 x13_1).f2), .int .i64 ((Qh l0_2 x13_1).f3), .int .i64 ((Qh l0_2 x13_1).f4), .slice none 0 0, .int .i64 0, .int .i64 0]) ?_ 5 _ rfl; (with_reducible repeat (first | refine Qd ?_ _ | refine Qg ?_ | refine Qb ?_ _)); refine Qy (cs := #[.int .i64 ((Qh l0_2 x13_1).f0), .int .i64 ((Qh l0_2 x13_1).f1), .int .i64 ((Qh l0_2 x13_1).f2), .int .i64 ((Qh l0_2 x13_1).f3), .int .i64 0, .slice none 0 0, .int .i64 0, .int .i64 0]) ?_ 4 _ rfl; (with_reducible repeat (first | refine Qd ?_ _ | refine Qg ?_ | refine Qb ?_ _)); refine Qy (cs := #[.int .i64 ((Qh l0_2 x13_1).f0), .int .i64 ((Qh l0_2 x13_1).f1), .int .i64 ((Qh l0_2 x13_1).f2), .int .i64 0, .int .i64 0, .slice none 0 0, .int .i64 0, .int .i64 0]) ?_ 3 _ rfl; (with_reducible repeat (first | refine Qd ?_ _ | refine Qg ?_ | refine Qb ?_ _)); refine Qy (cs := #[.int .i64 ((Qh l0_2 x13_1).f0), .int .i64 ((Qh l0_2 x13_1).f1), .int .i64 0, .int .i64 0, .int .i64 0, .slice none 0 0, .int .i64 0, .int .i64 0]) ?_ 2 _ rfl; (with_reducible repeat (first | refine Qd ?_ _ | refine Qg ?_ | refine Qb ?_ _)); refine Qy (cs := #[.int .i64 ((Qh l0_2 x13_1).f0), .int .i64 0, .int .i64 0, .int .i64 0, .int .i64 0, .slice none 0 0, .int .i64 0, .int .i64 0]) ?_ 1 _ rfl; (with_reducible repeat (first | refine Qd ?_ _ | refine Qg ?_ | refine Qb ?_ _)); refine Qy (cs := #[.int .i64 0, .int .i64 0, .int .i64 0, .int .i64 0, .int .i64 0, .slice none 0 0, .int .i64 0, .int .i64 0]) ?_ 0 _ rfl; (with_reducible repeat (first | refine Qd ?_ _ | refine Qg ?_ | refine Qb ?_ _)); exact BK115.out⟩
           have n3_ : Qf (Below w.heap.size w ((((((((w16.setCell ⟨gb115, 0, none⟩ (.int .i64 ((Qh l0_2 x13_1).f0))).setCell ⟨gb115, 1, none⟩ (.int .i64 ((Qh l0_2 x13_1).f1))).setCell ⟨gb115, 2, none⟩ (.int .i64 ((Qh l0_2 x13_1).f2))).setCell ⟨gb115, 3, none⟩ (.int .i64 ((Qh l0_2 x13_1).f3))).setCell ⟨gb115, 4, none⟩ (.int .i64 ((Qh l0_2 x13_1).f4))).setCell ⟨gb115, 5, none⟩ (.slice A114_5 ((Qh l0_2 x13_1).f5.f0).length c114_5)).setCell ⟨gb115, 6, none⟩ (.int .i64 ((Qh l0_2 x13_1).f5.f1))).setCell ⟨gb115, 7, none⟩ (.int .i64 ((Qh l0_2 x13_1).f5.f2)))) := ⟨by repeat (first | (with_reducible first | exact HB.out | apply Qi | apply Qa | apply Qj | refine Qk ?_ GE110.out | refine Qk ?_ GE115.out) | exact HB.out)⟩
           (try clear HO_3)
           (try clear BK110)
           (try clear BK115)
           (try clear HB)
           generalize ((((((((w16.setCell ⟨gb115, 0, none⟩ (.int .i64 ((Qh l0_2 x13_1).f0))).setCell ⟨gb115, 1, none⟩ (.int .i64 ((Qh l0_2 x13_1).f1))).setCell ⟨gb115, 2, none⟩ (.int .i64 ((Qh l0_2 x13_1).f2))).setCell ⟨gb115, 3, none⟩ (.int .i64 ((Qh l0_2 x13_1).f3))).setCell ⟨gb115, 4, none⟩ (.int .i64 ((Qh l0_2 x13_1).f4))).setCell ⟨gb115, 5, none⟩ (.slice A114_5 ((Qh l0_2 x13_1).f5.f0).length c114_5)).setCell ⟨gb115, 6, none⟩ (.int .i64 ((Qh l0_2 x13_1).f5.f1))).setCell ⟨gb115, 7, none⟩ (.int .i64 ((Qh l0_2 x13_1).f5.f2))) = w19 at n0_ n1_ n2_ n3_ ⊢
           have HO_3 := n0_
           have BK110 := n1_
           have BK115 := n2_
           have HB := n3_
           clear n0_ n1_ n2_ n3_
           have n0_ := Qf.mk (Kd.S_drew HO_3.out)
           have n1_ := Qf.mk (Qg BK110.out)
           have n2_ := Qf.mk (Qg BK115.out)
           have n3_ := Qf.mk (Qj HB.out)
           clear HO_3
           clear BK110
           clear BK115
           clear HB
           have HO_3 := n0_
           have BK110 := n1_
           have BK115 := n2_
           have HB := n3_
           clear n0_ n1_ n2_ n3_
           obtain ⟨Ao21, co21, eo21⟩ := Kd.S_slice HO_3.out
           (first | subst eo21 | (injection eo21 with f1_ f2_ f3_; have f4_ := f1_.symm; have f5_ := f3_.symm; clear f1_ f2_ f3_; subst f4_; subst f5_))
           have p116 : 0 ≤ (((Qh l0_2 x13_1).f0) : Int) := of_decide_eq_true (by first | (with_reducible assumption) | assumption)
           have q116 : ((Qh l0_2 x13_1).f0) < (x3_1.length : Int) := of_decide_eq_true (by first | (with_reducible assumption) | assumption)
           obtain ⟨ad116, A116_0, c116_0, e116, hx116_0, hl116_0, hi116_0⟩ := at_L7 (Kd.S_reads' HO_3.out).2.2 ((Qh l0_2 x13_1).f0) p116 q116
           cases e116
           obtain ⟨ce116, hce116, hMe116, hcc116⟩ := Kd.S_get HO_3.out [] ((Qh l0_2 x13_1).f0) p116 (by first | exact q116 | exact of_decide_eq_true (by first | (with_reducible assumption) | assumption) | (have e_ := (Kd.S_reads' HO_3.out).1; omega))
           obtain ⟨ve116_0, rfl, ge116_0⟩ := hMe116
           have hv116_0 := hcc116 0 _ rfl
           rw [Nat.add_zero, show ((Kd.slice 3 (Kd.int .i64))).sz = 1 from rfl, Nat.mul_one] at hv116_0
           replace hv116_0 := Option.some.inj (hv116_0.symm.trans hx116_0)
           rw [hv116_0] at ge116_0
           have HL116_0 := Qf.mk (show Kd.R (Kd.int .i64) 3 _ _ _ _ (rd_L7 x3_1 ((Qh l0_2 x13_1).f0)) from ge116_0)
           clear hv116_0 ge116_0
           have HX116_0 := Qf.mk hx116_0
           clear hcc116 hce116
           have HR116_0 := Qf.mk hi116_0
           have HC116_0 := Qf.mk hl116_0
           clear hi116_0 hl116_0
           replace p116 := eq_true p116
           replace q116 := eq_true q116
           obtain ⟨go22, co22, eo22, gb22, gl22, cl22, HG22⟩ := Kd.S_form HO_3.out (by have h_ : (((Qh l0_2 x13_1).f0) : Int) < ((x3_1.length : Int) : Int) := of_decide_eq_true (by first | (with_reducible assumption) | assumption); have h2_ : 0 ≤ (((Qh l0_2 x13_1).f0) : Int) := (of_decide_eq_true (by first | (with_reducible assumption) | assumption)); omega)
           (first | cases eo22 | (injection eo22 with ea_ en_ ec_; (first | subst ea_ | (injection ea_ with ea_; subst ea_)); subst ec_; clear en_))
           have GB22 := Qf.mk gb22
           have GG22 := Qf.mk HG22
           clear gb22 gl22 HG22
           (first | simp only [add_plain] at hx116_0 | skip)
           obtain ⟨oki22, ce22, hcl22, hM22, hcc22, _, _, hH22⟩ := Kd.S_elem HO_3.out [] (((Qh l0_2 x13_1).f0) : Int) (of_decide_eq_true (by first | (with_reducible assumption) | assumption)) (by have h_ : (((Qh l0_2 x13_1).f0) : Int) < ((x3_1.length : Int) : Int) := of_decide_eq_true (by first | (with_reducible assumption) | assumption); first | exact h_ | (have e_ := (Kd.S_reads' HO_3.out).1; omega) | simpa using h_)
           obtain ⟨ve22_0, rfl, ge22_0⟩ := hM22
           have hv22 := hcc22 0 _ rfl
           have hX22 := HX116_0.out
           (try simp only [add_plain] at hX22)
           (try simp only [Nat.add_zero] at hv22)
           (try rw [show ((Kd.slice 3 (Kd.int .i64))).sz = 1 from rfl, Nat.mul_one] at hv22)
           replace hv22 := Option.some.inj (hv22.symm.trans hX22)
           subst hv22
           clear hX22 hcc22 hcl22
           have UU22 := Qf.mk (show Kd.R (Kd.int .i64) 3 _ w.heap.size oki22 (.slice A116_0 (rd_L7 x3_1 ((Qh l0_2 x13_1).f0)).length c116_0) (rd_L7 x3_1 ((Qh l0_2 x13_1).f0)) from ge22_0)
           have HH22 := Qf.mk hH22
           have HN22 := Qf.mk (Kd.S_reads' HO_3.out).1
           clear hH22 ge22_0
           refine start_ (n := 13) (S := fun w' => w'.cell? ⟨gb115, 0, none⟩ = some (.int .i64 ((Qh l0_2 x13_1).f0)) ∧ w'.cell? ⟨gb115, 1, none⟩ = some (.int .i64 ((Qh l0_2 x13_1).f1)) ∧ w'.cell? ⟨gb115, 2, none⟩ = some (.int .i64 ((Qh l0_2 x13_1).f2)) ∧ w'.cell? ⟨gb115, 3, none⟩ = some (.int .i64 ((Qh l0_2 x13_1).f3)) ∧ w'.cell? ⟨gb115, 4, none⟩ = some (.int .i64 ((Qh l0_2 x13_1).f4)) ∧ w'.cell? ⟨gb115, 5, none⟩ = some (.slice A114_5 ((Qh l0_2 x13_1).f5.f0).length c114_5) ∧ w'.cell? ⟨gb115, 6, none⟩ = some (.int .i64 ((Qh l0_2 x13_1).f5.f1)) ∧ w'.cell? ⟨gb115, 7, none⟩ = some (.int .i64 ((Qh l0_2 x13_1).f5.f2)) ∧ w'.cell? ⟨go22, (((Qh l0_2 x13_1).f0)).toNat, none⟩ = some (.slice A116_0 (rd_L7 x3_1 ((Qh l0_2 x13_1).f0)).length c116_0)) (ds := [12]) #[false, false, false, false, false, false, false, false, false, false, false, false, false] (by kernel_rfl) rfl rfl ⟨(Qe BK115.out 0).trans rfl, (Qe BK115.out 1).trans rfl, (Qe BK115.out 2).trans rfl, (Qe BK115.out 3).trans rfl, (Qe BK115.out 4).trans rfl, (Qe BK115.out 5).trans rfl, (Qe BK115.out 6).trans rfl, (Qe BK115.out 7).trans rfl, hx116_0⟩ (fun hHeld => ?_); refine with_tabW QJ.tab5 QJ.bits5 (fun HT_ HW_ => ?_)
           generalize w19.drew = w20 at HO_3 BK110 BK115 HB GG22 HH22 HL116_0 HR116_0 HX116_0 UU22 hx116_0 hHeld ⊢
           refine QL (i := 0) (N := some 18) (v := ?_) (a' := ?_) #[true, false, false, false, false, false, false, false, false, false, false, false, false] rfl rfl (QD HT_.out (by kernel_rfl)) (fun _ _ _ h => h) (Or.inl ⟨by rfl, ?_⟩) ?_ ?_
           rotate_left
           ·intro w'
            go_simp
            with_reducible rfl
           rotate_left
           ·simp only [Act.put, List.setIfInBounds_toArray, List.set_cons_zero, List.set_cons_succ, Qt, Qu]
            rfl
           refine QL (i := 1) (N := some 19) (v := ?_) (a' := ?_) #[true, true, false, false, false, false, false, false, false, false, false, false, false] rfl rfl (QD HT_.out (by kernel_rfl)) (fun _ _ _ h => h) (Or.inl ⟨by rfl, ?_⟩) ?_ ?_
           rotate_left
           ·intro w'
            go_simp
            with_reducible rfl
           rotate_left
           ·simp only [Act.put, List.setIfInBounds_toArray, List.set_cons_zero, List.set_cons_succ, Qt, Qu]
            rfl
           refine QL (i := 3) (N := some 21) (v := ?_) (a' := ?_) #[true, true, false, true, false, false, false, false, false, false, false, false, false] rfl rfl (QD HT_.out (by kernel_rfl)) (fun _ _ _ h => h) (Or.inl ⟨by rfl, ?_⟩) ?_ ?_
           rotate_left
           ·intro w'
            go_simp
            with_reducible rfl
           rotate_left
           ·simp only [Act.put, List.setIfInBounds_toArray, List.set_cons_zero, List.set_cons_succ, Qt, Qu]
            rfl
           refine QL (i := 4) (N := some 22) (v := ?_) (a' := ?_) #[true, true, false, true, true, false, false, false, false, false, false, false, false] rfl rfl (QD HT_.out (by kernel_rfl)) (fun _ _ _ h => h) (Or.inl ⟨by rfl, ?_⟩) ?_ ?_
           rotate_left
           ·intro w'
            go_simp
            with_reducible rfl
           rotate_left
           ·simp only [Act.put, List.setIfInBounds_toArray, List.set_cons_zero, List.set_cons_succ, Qt, Qu]
            rfl
           refine QL (i := 8) (N := some 26) (v := ?_) (a' := ?_) #[true, true, false, true, true, false, false, false, true, false, false, false, false] rfl rfl (QD HT_.out (by kernel_rfl)) (fun _ _ _ h => h) (Or.inl ⟨by rfl, ?_⟩) ?_ ?_
           rotate_left
           ·intro w'
            go_simp
            with_reducible rfl
           rotate_left
           ·simp only [Act.put, List.setIfInBounds_toArray, List.set_cons_zero, List.set_cons_succ, Qt, Qu]
            rfl
           refine take_ (i := 2) (N := some 20) (v := ?_) (a' := ?_) #[true, true, true, true, true, false, false, false, true, false, false, false, false] rfl rfl (Q8 HT_.out HW_.out (by kernel_rfl)) (fun _ _ _ h => h) (Or.inl ⟨by rfl, ?_⟩) hHeld ?_ ?_
           rotate_left
           ·rintro w' ⟨s0, s1, s2, s3, s4, s5, s6, s7, s8⟩
            go_simp
            with_reducible rfl
           rotate_left
           ·simp only [Act.put, List.setIfInBounds_toArray, List.set_cons_zero, List.set_cons_succ, Qt, Qu]
            rfl
           refine take_ (i := 5) (N := some 23) (v := ?_) (a' := ?_) #[true, true, true, true, true, true, false, false, true, false, false, false, false] rfl rfl (Q8 HT_.out HW_.out (by kernel_rfl)) (fun _ _ _ h => h) (Or.inl ⟨by rfl, ?_⟩) hHeld ?_ ?_
           rotate_left
           ·rintro w' ⟨s0, s1, s2, s3, s4, s5, s6, s7, s8⟩
            go_simp
            with_reducible rfl
           rotate_left
           ·simp only [Act.put, List.setIfInBounds_toArray, List.set_cons_zero, List.set_cons_succ, Qt, Qu]
            rfl
           refine QL (i := 6) (N := some 24) (v := ?_) (a' := ?_) #[true, true, true, true, true, true, true, false, true, false, false, false, false] rfl rfl (QD HT_.out (by kernel_rfl)) (fun _ _ _ h => h) (Or.inl ⟨by rfl, ?_⟩) ?_ ?_
           rotate_left
           ·intro w'
            go_simp
            with_reducible rfl
           rotate_left
           ·simp only [Act.put, List.setIfInBounds_toArray, List.set_cons_zero, List.set_cons_succ, Qt, Qu]
            rfl
           refine take_ (i := 7) (N := some 25) (v := ?_) (a' := ?_) #[true, true, true, true, true, true, true, true, true, false, false, false, false] rfl rfl (Q8 HT_.out HW_.out (by kernel_rfl)) (fun _ _ _ h => h) (Or.inl ⟨by rfl, ?_⟩) hHeld ?_ ?_
           rotate_left
           ·rintro w' ⟨s0, s1, s2, s3, s4, s5, s6, s7, s8⟩
            go_simp
            with_reducible rfl
           rotate_left
           ·simp only [Act.put, List.setIfInBounds_toArray, List.set_cons_zero, List.set_cons_succ, Qt, Qu]
            rfl
           refine one_ (i := 9) (N := some 27) #[true, true, true, true, true, true, true, true, true, true, false, false, false] rfl rfl (one_of HT_.out (by kernel_rfl)) (by decide) (fun K hK => ?_)
           refine value_ (w1 := ?_) (v := ?_) (by rfl) rfl ?_ ?_
           rotate_left 2
           ·go_simp
            constructor
            ·rfl
            ·rfl
           refine hK.out _ _ ⟨(Qe (Qb BK115.out _) 0).trans rfl, (Qe (Qb BK115.out _) 1).trans rfl, (Qe (Qb BK115.out _) 2).trans rfl, (Qe (Qb BK115.out _) 3).trans rfl, (Qe (Qb BK115.out _) 4).trans rfl, (Qe (Qb BK115.out _) 5).trans rfl, (Qe (Qb BK115.out _) 6).trans rfl, (Qe (Qb BK115.out _) 7).trans rfl, (World.cell?_alloc_lt _ _ _ (World.block_lt_of_cell? _ _ (hHeld.2.2.2.2.2.2.2.2))).trans (hHeld.2.2.2.2.2.2.2.2)⟩ (fun hHeld => ?_)
           clear hK K
           refine norm_ (a' := ?_) ?_ ?_
           rotate_left
           ·show Act.put _ (some 27) _ = _
            simp only [Act.put, List.setIfInBounds_toArray, List.set_cons_zero, List.set_cons_succ, Qt, Qu]
            rfl
           refine one_ (i := 10) (N := some 28) #[true, true, true, true, true, true, true, true, true, true, true, false, false] rfl rfl (one_of HT_.out (by kernel_rfl)) (by decide) (fun K hK => ?_)
           refine Kd.R_append_step (Kd.int .i64) (w0 := w) w.heap.size (by rfl) (.tmp 25) (.tmp 27) 33 3 (.int .i64 0) 8 rfl Try.underlying33 info3 rfl (by decide) (by omega) (.slice A116_0 (rd_L7 x3_1 ((Qh l0_2 x13_1).f0)).length c116_0) (rd_L7 x3_1 ((Qh l0_2 x13_1).f0)) x13_1 [.int .i64 x13_1] (fun k_ => oki22 k_ ∨ ((fun _ => True)) k_ ∧ w20.heap.size ≤ k_) (fun _ => False) rfl rfl ?aP (fun _ hk => hk.elim) ?aF ?aO ?aB ?aS ?aL ?_
           (case aP => exact rfl)
           (case aB => exact (by repeat (first | (with_reducible first | exact HB.out | apply Qi | apply Qa | apply Qj | refine Qk ?_ GE110.out | refine Qk ?_ GE115.out) | exact HB.out)))
           (case aF => exact (fun k_ hk => .inr ⟨trivial, hk⟩))
           (case aO => exact (by (with_reducible repeat (first | apply Kd.QP | apply Kd.QQ | apply Kd.QT)); exact Kd.Q9 UU22.out (fun _ hk => .inl hk)))
           (case aS => exact (Qp (by repeat (first | (with_reducible first | exact HB.out | apply Qi | apply Qa | apply Qj | refine Qk ?_ GE110.out | refine Qk ?_ GE115.out) | exact HB.out))))
           (case aL => have := LMc14.out; omega)
           intro v118 w23 ho hb hg hat
           (first | have HS8_ := cell_grown hg (hHeld.2.2.2.2.2.2.2.2) (by first | (rw [add_block]; exact (fun e_ => ((HL116_0.out.1 _ e_.symm).2) rfl)) | (show some (Addr.add _ _).block ≠ _; rw [add_block]; exact (fun e_ => ((HL116_0.out.1 _ e_.symm).2) rfl)) | exact (fun e_ => ((HL116_0.out.1 _ e_.symm).2) rfl)) | have HS8_ := cell_grown hg (cell_unalloc (hHeld.2.2.2.2.2.2.2.2) (by first | (rw [add_block]; exact Kd.S_lt HO_3.out _ rfl) | (show (Addr.add _ _).block < _; rw [add_block]; exact Kd.S_lt HO_3.out _ rfl) | exact Kd.S_lt HO_3.out _ rfl)) (by first | (rw [add_block]; exact (fun e_ => ((HL116_0.out.1 _ e_.symm).2) rfl)) | (show some (Addr.add _ _).block ≠ _; rw [add_block]; exact (fun e_ => ((HL116_0.out.1 _ e_.symm).2) rfl)) | exact (fun e_ => ((HL116_0.out.1 _ e_.symm).2) rfl)))
           rw [← Ny117.out] at ho
           have n0_ := Qf.mk (blk_grown (g := gb110) (o := .cells #[.slice A0_0 l0_0.length c0_0, .slice A0_1 l0_1.length c0_1, .slice (some ad114) l0_2.length c0_2] 37 (0, 0)) (by (with_reducible repeat (first | refine Qd ?_ _ | refine Qg ?_ | refine Qb ?_ _)); exact BK110.out) hg (Kd.R_ne HL116_0.out BK110.out (by decide)))
           have n1_ := Qf.mk (blk_grown (g := gb115) (o := .cells #[.int .i64 ((Qh l0_2 x13_1).f0), .int .i64 ((Qh l0_2 x13_1).f1), .int .i64 ((Qh l0_2 x13_1).f2), .int .i64 ((Qh l0_2 x13_1).f3), .int .i64 ((Qh l0_2 x13_1).f4), .slice A114_5 ((Qh l0_2 x13_1).f5.f0).length c114_5, .int .i64 ((Qh l0_2 x13_1).f5.f1), .int .i64 ((Qh l0_2 x13_1).f5.f2)] 58 (0, 0)) (by (with_reducible repeat (first | refine Qd ?_ _ | refine Qg ?_ | refine Qb ?_ _)); exact BK115.out) hg (Kd.R_ne HL116_0.out BK115.out (by decide)))
           have n2_ := Qf.mk (hb)
           have n3_ := Qf.mk (Kd.H_grown (Kd.H_widen (by repeat (first | exact HH22.out | refine Kd.H_alloc ?_ _ | refine Kd.H_drewN ?_ _ | refine Kd.H_drew ?_))) hg (fun k_ e_ => .inl (UU22.out.1 k_ e_)))
           have n4_ := Qf.mk (ho)
           clear BK110
           clear BK115
           clear HB
           clear HH22
           clear HO_3
           clear UU22
           clear HL116_0
           have BK110 := n0_
           have BK115 := n1_
           have HB := n2_
           have HH22 := n3_
           have HO119 := n4_
           clear n0_ n1_ n2_ n3_ n4_
           clear ho hb hg hat
           have p15 : 0 ≤ (((Qh l0_2 x13_1).f0) : Int) := of_decide_eq_true (by first | (with_reducible assumption) | assumption)
           have q15 : (((Qh l0_2 x13_1).f0) : Int) < ((x3_1.length : Int) : Int) := of_decide_eq_true (by first | (with_reducible assumption) | assumption)
           replace p15 := eq_true p15
           replace q15 := eq_true q15
           obtain ⟨Ao26, co26, eo26⟩ := Kd.R_slice HO119.out
           (first | subst eo26 | (injection eo26 with f1_ f2_ f3_; have f4_ := f1_.symm; have f5_ := f3_.symm; clear f1_ f2_ f3_; subst f4_; subst f5_))
           obtain ⟨_, _, hraw24, _, _, hcc24, _⟩ := Kd.H_raw HH22.out (of_decide_eq_true (by first | (with_reducible assumption) | assumption)) (by have h_ : (((Qh l0_2 x13_1).f0) : Int) < ((x3_1.length : Int) : Int) := of_decide_eq_true (by first | (with_reducible assumption) | assumption); first | exact h_ | (have e_ := (HN22.out); omega) | simpa using h_)
           obtain ⟨_, hfr24⟩ := Kd.H_at HH22.out (of_decide_eq_true (by first | (with_reducible assumption) | assumption)) (by have h_ : (((Qh l0_2 x13_1).f0) : Int) < ((x3_1.length : Int) : Int) := of_decide_eq_true (by first | (with_reducible assumption) | assumption); first | exact h_ | (have e_ := (HN22.out); omega) | simpa using h_)
           have hx24_0 := hcc24 0 _ rfl
           have hf24_0 := hfr24 0
           (try simp only [Nat.add_zero] at hx24_0 hf24_0)
           (try rw [show ((Kd.slice 3 (Kd.int .i64))).sz = 1 from rfl, Nat.mul_one] at hx24_0)
           (try rw [show ((Kd.slice 3 (Kd.int .i64))).sz = 1 from rfl, Nat.mul_one] at hf24_0)
           have HP24 := Kd.S_seg0 HH22.out (of_decide_eq_true (by first | (with_reducible assumption) | assumption)) (by have h_ : (((Qh l0_2 x13_1).f0) : Int) < ((x3_1.length : Int) : Int) := of_decide_eq_true (by first | (with_reducible assumption) | assumption); first | exact h_ | (have e_ := (HN22.out); omega) | simpa using h_) (seg := [.slice Ao26 y117.length co26]) (j := 0) (show 1 ≤ 1 from by decide) (x' := y117) (Kd.M_row HO119.out) (fun _ hk => hk)
           (try simp only [show ((Kd.slice 3 (Kd.int .i64))).sz = 1 from rfl, Nat.mul_one, Nat.add_zero] at HP24)
           clear hcc24 hfr24
           have HNB110_go22 := Qf.mk (show gb110 ≠ go22 from by have h_ := Kd.R_ne hraw24 BK110.out (by decide); intro e_; exact h_ (by rw [e_]; rfl))
           have HNB115_go22 := Qf.mk (show gb115 ≠ go22 from by have h_ := Kd.R_ne hraw24 BK115.out (by decide); intro e_; exact h_ (by rw [e_]; rfl))
           have HS24 := HP24.1
           rw [← Ny120.out] at HS24
           have HQ24 := Qf.mk HS24
           obtain ⟨_, hgg24⟩ := Kd.R_typed hraw24 go22 rfl
           have GG24_ := Qf.mk hgg24
           clear HP24 HS24 hgg24
           refine hK.out _ _ ⟨(Qe BK115.out 0).trans rfl, (Qe BK115.out 1).trans rfl, (Qe BK115.out 2).trans rfl, (Qe BK115.out 3).trans rfl, (Qe BK115.out 4).trans rfl, (Qe BK115.out 5).trans rfl, (Qe BK115.out 6).trans rfl, (Qe BK115.out 7).trans rfl, HS8_⟩ (fun hHeld => ?_)
           clear hK K
           refine norm_ (a' := ?_) ?_ ?_
           rotate_left
           ·show Act.put _ (some 28) _ = _
            simp only [Act.put, List.setIfInBounds_toArray, List.set_cons_zero, List.set_cons_succ, Qt, Qu]
            rfl
           refine QL (i := 11) (N := some 29) (v := ?_) (a' := ?_) #[true, true, true, true, true, true, true, true, true, true, true, true, false] rfl rfl (QD HT_.out (by kernel_rfl)) (fun _ _ _ h => h) (Or.inl ⟨by rfl, ?_⟩) ?_ ?_
           rotate_left
           ·intro w'
            go_simp
            with_reducible rfl
           rotate_left
           ·simp only [Act.put, List.setIfInBounds_toArray, List.set_cons_zero, List.set_cons_succ, Qt, Qu]
            rfl
           refine last_ (i := 12) (N := none) #[true, true, true, true, true, true, true, true, true, true, true, true, true] rfl rfl (one_of HT_.out (by kernel_rfl)) (by decide) (fun K hK => ?_)
           refine skip_ (w1 := ?_) (by rfl) rfl ?_ ?_
           rotate_left
           ·go_simp
            rfl
           refine hK.out _ _ ?_
           clear hK K
           refine done_ (done_of HT_.out (by kernel_rfl)) ?_
           try go_wp2
           go_roundg k1
           case measure => have := HK1.out; omega
           case rel => exact ⟨(y120), (wrap64 (x13_1 + 1)), (by first | rfl | (simp; done) | (simp [*]; done)), H', ⟨by have := HK1.out; omega⟩, ⟨by (with_reducible repeat (first | apply Kd.S_alloc | apply Kd.S_drewN | apply Kd.S_drew)); exact HQ24.out⟩, ⟨by (with_reducible repeat (first | refine Qd ?_ _ | refine Qg ?_ | refine Qb ?_ _)); refine Qv ?_ HNB110_go22.out _; (with_reducible repeat (first | refine Qd ?_ _ | refine Qg ?_ | refine Qb ?_ _)); exact BK110.out⟩, ⟨by repeat (first | (with_reducible first | exact HB.out | apply Qi | apply Qa | apply Qj | refine Qk ?_ GB22.out | refine Qk ?_ GE110.out | refine Qk ?_ GE115.out) | exact HB.out)⟩⟩
          ·rw [if_neg c14] at H
           exact absurd H (by simp)
         ·rw [if_neg c13] at H
          exact absurd H (by simp)
        ·rw [if_neg c12] at H
         exact absurd H (by simp)
       ·rw [if_neg c11] at H
        exact absurd H (by simp)
      ·rw [if_neg c10] at H
       exact absurd H (by simp)
     ·rw [if_neg c9] at H
      have c9b0 : decide (x13_1 < (l0_2.length : Int)) = false := decide_eq_false c9
      clear c9
      obtain rfl := Option.some.inj H
      go_wp2
      go_ret
      exact ⟨_, by first | rfl | (simp [Qw, Qx] <;> rfl) | (simp [*, Qw, Qx] <;> rfl), by (with_reducible repeat (first | apply Kd.S_alloc | apply Kd.S_drewN | apply Kd.S_drew)); exact HO_3.out, by repeat (first | (with_reducible first | exact HB.out | apply Qi | apply Qa | apply Qj | refine Qk ?_ GE110.out) | exact HB.out)⟩
  ·rw [if_neg c3] at H
   exact absurd H (by simp)
 ·rw [if_neg c2] at H
  exact absurd H (by simp)

end Go.Proofs.Ytbkfjmpnbalkaaa.QTurnsPieces
