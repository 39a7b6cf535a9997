-- Written by a program of this session (wip/ext.py) with the kit's print; Lean checks it.
import Derived.Test.YtbkfjmpnbalkaaaQTurnsPiecesx0
import Derived.Test.YtbkfjmpnbalkaaaQTurnsPiecesx1
import Derived.Test.YtbkfjmpnbalkaaaQTurnsPiecesx2
import Derived.Test.YtbkfjmpnbalkaaaQTurnsPiecesx3
import Derived.Test.YtbkfjmpnbalkaaaQTurnsPiecesx4
namespace Go.Proofs.Ytbkfjmpnbalkaaa.QTurnsPieces
open Go.RowKit Go.Proofs.YtbkfjmpnbalkaaaW.PrintWords Go.Proofs.YtbkfjmpnbalkaaaW.PrintLast Go.Proofs.YtbkfjmpnbalkaaaW.PrintMore
attribute [local go_sem] max2_int min2_int max_two min_two max_three min_three max_four min_four   -- for this text's walks alone
set_option linter.unusedVariables false
set_option linter.unusedSimpArgs false

/-! ### Q3: function 23 (a contract of our own) -/

/-- What the closure 'add' of Expand leaves of the world. -/
def AddPost (g : Nat) (N : Int) (arcs : List S92) (base : Nat) (w0 W0 W : World) (e : Ending) (w' : World) : Prop :=
 e = .returned (.tuple #[]) ∧ ∃ v1, w'.heap[g]? = some (.cells #[.int .i64 N, v1] 51 (0, 0)) ∧ Kd.R k92 92 w' base (fun k => W0.heap.size ≤ k) v1 arcs ∧ KeepBut W0 w' g none ∧ Below base w0 w' ∧ ∀ (b : Nat) (cs : Array Value) (ty : TypeId), ty ≠ 92 → b ≠ g → W.heap[b]? = some (.cells cs ty (0, 0)) → w'.heap[b]? = some (.cells cs ty (0, 0))
theorem keep_grown {W0 W w1 : World} {g : Nat} {row : Option Nat} (hK : KeepBut W0 W g none) (hg : W.grownBy w1 row) (hr : ∀ k, row = some k → W0.heap.size ≤ k) : KeepBut W0 w1 g none :=
 ⟨Nat.le_trans hK.1 hg.size, fun i hi hne _ => (hg.block i (Nat.lt_of_lt_of_le hi hK.1) (fun he => by have := hr i he.symm; omega)).trans (hK.2 i hi hne (by simp))⟩
set_option maxHeartbeats 4000000 in
set_option maxRecDepth 100000 in
theorem add_calls (f t : Int) (g : Nat) (N : Int) (v : Value) (arcs : List S92) (base : Nat) (w0 W0 W : World) (hg : W.heap[g]? = some (.cells #[.int .i64 N, v] 51 (0, 0))) (hlo : base ≤ g) (hgl : g < W0.heap.size)
  (hR : Kd.R k92 92 W base (fun k => W0.heap.size ≤ k) v arcs) (hK : KeepBut W0 W g none) (hB : Below base w0 W) (hlen : arcs.length ≤ 8000000000000) :
  Calls Try.prog 42 #[.int .i64 f, .int .i64 t, .pointer (some ⟨g, 0, none⟩)] W (AddPost g N (arcs ++ [⟨f, t⟩]) base w0 W0 W) := by
 have x1 := (Qe hg 1).trans (rfl : _ = some v)
 have hgW := QR hg
 have HG := Qf.mk hg
 have HR := Qf.mk hR
 have HK := Qf.mk hK
 have HBB := Qf.mk hB
 have hgW1 := Nat.lt_succ_of_lt hgW
 have hfr := Qc hg 1
 clear hg hR hK hB
 obtain ⟨A, c, rfl⟩ := Kd.R_slice HR.out
 go_enter Try.func42, Try.ntmps42
 go_wp2_with (at_builtin; refine Kd.R_append k92 (w0 := w0) base (by rfl) (.tmp 6) (.tmp 10) 49 92 (.agg #[(.int .i64 0), (.int .i64 0)]) 16 rfl Try.underlying49 info92 rfl (by decide) (by omega) _ arcs (⟨f, t⟩ : S92) [.int .i64 f, .int .i64 t] (fun k => W0.heap.size ≤ k) (fun _ => False) rfl rfl (k92_mkM _ _ _ _) (fun _ hk => hk.elim) (fun k hk => Nat.le_trans HK.out.1 hk) HR.out HBB.out (by have := HK.out.1; omega) (by omega) ?_; intro v1 w1 hr hb hg hat; obtain ⟨A1, c1, rfl⟩ := Kd.R_slice hr; have hx := hg.block g hgW (fun he => by have := HR.out.1 g he.symm; omega); have HG1 := Qf.mk (hx.trans HG.out); have HR1 := Qf.mk hr; have HB1 := Qf.mk hb; have HK1 := Qf.mk (keep_grown HK.out hg (fun k hk => HR.out.1 k hk)); have HO := Qf.mk (fun (b : Nat) (cs : Array Value) (ty : TypeId) (hty : ty ≠ 92) (hb : W.heap[b]? = some (.cells cs ty (0, 0))) => (hg.block b (QR hb) (Kd.R_ne HR.out hb (fun h => hty h.symm))).trans hb); clear hx hr hb hg hat x1 hfr; have x1 := (Qe HG1.out 1).trans (rfl : _ = some (Value.slice A arcs.length c)); have hfr := Qc HG1.out 1)
 first | go_end0 | ((try simp only [Exit.inBlock, Exit.then]); refine bodyPost_ret (results_none rfl _ _ _) rfl ?_)
 have hl : (arcs ++ [(⟨f, t⟩ : S92)]).length = arcs.length + 1 := by simp
 have hr1 := HR1.out
 rw [hl] at hr1
 exact ⟨rfl, _, blk_set HG1.out 1 _, Kd.R_far (p := ⟨g, 1, none⟩) hr1 (fun k hk => by show k ≠ g; omega) _, HK1.out.set_ 1 _, HB1.out.setCell hlo _, fun b cs ty hty hbg hb => Qv (HO.out b cs ty hty hb) (p := ⟨g, 1, none⟩) hbg _⟩

def exIn (ok : Int → Option Bool) (a : Int) : List Int → List S92 → Option (List S92)
 | [], acc => some acc
 | b :: bs, acc => if acc.length ≤ 7000000000000 then (ok b).bind fun t => exIn ok a bs (if t = true then acc ++ [⟨a, b⟩] else acc) else none
def exOut (ok : Int → Int → Option Bool) (out : List (List Int)) : Int → List S58 → List S92 → Option (List S92)
 | _, [], acc => some acc
 | a, p :: ps, acc => if 0 ≤ p.f1 ∧ p.f1 < (out.length : Int) then (exIn (ok a) a (out.getD p.f1.toNat []) acc).bind (fun acc => exOut ok out (a + 1) ps acc) else none
def ex1 (n : Nat) : Int → List S58 → List S92
 | _, [] => []
 | b, p :: ps => ⟨wrap64 ((n : Int) + p.f0), b⟩ :: ex1 n (b + 1) ps
theorem ex1_length (n : Nat) : ∀ (b : Int) (ps : List S58), (ex1 n b ps).length = ps.length
 | _, [] => rfl
 | b, p :: ps => by rw [ex1, List.length_cons, List.length_cons, ex1_length n (b + 1) ps]
theorem ex1_get (n : Nat) : ∀ (b : Int) (ps : List S58) (k : Nat) (hk : k < ps.length), (ex1 n b ps)[k]? = some ⟨wrap64 ((n : Int) + (ps[k]).f0), b + k⟩
 | b, p :: ps, 0, _ => by simp [ex1]
 | b, p :: ps, k + 1, hk => by
  have := ex1_get n (b + 1) ps k (by simpa using hk)
  rw [ex1, List.getElem?_cons_succ, this]
  simp
  omega
theorem rd58_get (l : List S58) (k : Nat) (hk : k < l.length) : Qh l k = l[k] := by
 unfold Qh
 rw [Int.toNat_natCast, List.getD_eq_getElem?_getD, List.getElem?_eq_getElem hk]
 rfl
theorem drop58 (l : List S58) (k : Nat) (hk : k < l.length) : l.drop k = Qh l k :: l.drop (k + 1) := by
 rw [rd58_get l k hk]
 exact List.drop_eq_getElem_cons hk
theorem ex1_take (n : Nat) (ps : List S58) (k : Nat) (hk : k < ps.length) : (ex1 n 0 ps).take (k + 1) = (ex1 n 0 ps).take k ++ [⟨wrap64 ((n : Int) + (Qh ps k).f0), k⟩] := by
 rw [List.take_add_one, ex1_get n 0 ps k hk, rd58_get ps k hk]
 simp
def ex3 (m : Int) : Int → List S58 → List S92
 | _, [] => []
 | a, p :: ps => ⟨a, wrap64 (m + p.f1)⟩ :: ex3 m (a + 1) ps
theorem ex3_length (m : Int) : ∀ (b : Int) (ps : List S58), (ex3 m b ps).length = ps.length
 | _, [] => rfl
 | b, p :: ps => by rw [ex3, List.length_cons, List.length_cons, ex3_length m (b + 1) ps]
theorem ex3_get (m : Int) : ∀ (b : Int) (ps : List S58) (k : Nat) (hk : k < ps.length), (ex3 m b ps)[k]? = some ⟨b + k, wrap64 (m + (ps[k]).f1)⟩
 | b, p :: ps, 0, _ => by simp [ex3]
 | b, p :: ps, k + 1, hk => by
  have := ex3_get m (b + 1) ps k (by simpa using hk)
  rw [ex3, List.getElem?_cons_succ, this]
  simp
  omega
theorem ex3_take (m : Int) (ps : List S58) (k : Nat) (hk : k < ps.length) : (ex3 m 0 ps).take (k + 1) = (ex3 m 0 ps).take k ++ [⟨k, wrap64 (m + (Qh ps k).f1)⟩] := by
 rw [List.take_add_one, ex3_get m 0 ps k hk, rd58_get ps k hk]
 simp
theorem dropInt (l : List Int) (k : Nat) (hk : k < l.length) : l.drop k = rd l k :: l.drop (k + 1) := by
 have : rd l k = l[k] := by
  unfold rd
  rw [Int.toNat_natCast, List.getD_eq_getElem?_getD, List.getElem?_eq_getElem hk]
  rfl
 rw [this]
 exact List.drop_eq_getElem_cons hk
def Q3.f (k : Nat) (l0_0 : List Int) (l0_1 : List (S158)) (l0_2 : List (S58)) (l1 : List (S42)) : Option (Int × (List (S92))) :=
 (QA.f k l0_0 l0_1 l0_2).bind fun e => if e = 0 then (if l0_0.length ≤ 1000000 ∧ l0_2.length ≤ 1000000 then (QJ.f k l0_0 l0_1 l0_2).bind fun out =>
  (exOut (fun a b => Jaa.f l0_0 l0_1 l0_2 l1 (out.getD (Qh l0_2 a).f1.toNat []) a b) out 0 l0_2 (ex1 l0_2.length 0 l0_2)).bind fun arcs => if arcs.length ≤ 7000000000000 then some ((l0_2.length : Int) + 2 * (l0_0.length : Int), arcs ++ ex3 ((l0_2.length : Int) + (l0_0.length : Int)) 0 l0_2) else none else none) else some (0, [])
theorem Q3.mono : ∀ a0 a1 a2 a3 k, LeO (Q3.f k a0 a1 a2 a3) (Q3.f (k + 1) a0 a1 a2 a3) := by
 intro a0 a1 a2 a3 k
 unfold Q3.f
 refine LeO.bind (QA.mono _ _ _ _) (fun e => ?_)
 refine LeO.ite ?_ (LeO.refl _)
 refine LeO.ite ?_ (LeO.refl _)
 exact LeO.bind (QJ.mono _ _ _ _) (fun out => LeO.refl _)
set_option maxHeartbeats 8000000 in
set_option maxRecDepth 100000 in
theorem Q3.calls (k : Nat) (A0_0 : Option Addr) (c0_0 : Nat) (l0_0 : List Int) (A0_1 : Option Addr) (c0_1 : Nat) (l0_1 : List (S158)) (A0_2 : Option Addr) (c0_2 : Nat) (l0_2 : List (S58)) (A1 : Option Addr) (c1 : Nat) (l1 : List (S42)) (r1 : Int) (r2 : List (S92)) (w : World) (hr0_0 : Kd.C (Kd.int .i64) w A0_0 l0_0.length l0_0) (hc0_0 : l0_0.length ≤ c0_0) (hr0_1 : Kd.C k158 w A0_1 l0_1.length l0_1) (hc0_1 : l0_1.length ≤ c0_1) (hr0_2 : Kd.C k58 w A0_2 l0_2.length l0_2) (hc0_2 : l0_2.length ≤ c0_2) (hr1 : Kd.C k42 w A1 l1.length l1) (hc1 : l1.length ≤ c1) (h : Q3.f k l0_0 l0_1 l0_2 l1 = some (r1, r2)) :
  Calls Try.prog 23 #[.agg #[.slice A0_0 l0_0.length c0_0, .slice A0_1 l0_1.length c0_1, .slice A0_2 l0_2.length c0_2], .slice A1 l1.length c1] w fun e w' => ∃ v1_ : Value, e = .returned (.agg #[.int .i64 r1, v1_]) ∧ Kd.R k92 92 w' w.heap.size (fun _ => True) v1_ r2 ∧ Below w.heap.size w w' := by
 unfold Q3.f at h
 replace h := Option.bind_eq_some_iff.1 h
 obtain ⟨e0, he, h⟩ := h
 have HE := Qf.mk he
 have HR0 := Qf.mk hr0_0
 have HR1 := Qf.mk hr0_1
 have HR2 := Qf.mk hr0_2
 have HRT := Qf.mk hr1
 have HC0 := hc0_0
 have HC1 := hc0_1
 have HC2 := hc0_2
 have HCT := hc1
 have HLN : l0_2.length ≤ 9223372036854775807 := hr0_2.2.1
 have HLN1 : l1.length ≤ 9223372036854775807 := hr1.2.1
 clear he hr0_0 hr0_1 hr0_2 hr1 hc0_0 hc0_1 hc0_2 hc1
 by_cases e00 : e0 = 0
 case neg =>
  rw [if_neg e00] at h
  obtain ⟨rfl, rfl⟩ := Prod.mk.inj (Option.some.inj h)
  clear h
  have b0 : (e0 != 0) = true := bne_iff_ne.2 e00
  have E0 := Qf.mk e00
  clear e00
  go_enter Try.func23, Try.ntmps23
  go_wp2_with (first | ((with_reducible refine QM (N := 2) rfl ?_); refine QI ?hg (N := 2) ?hd (cs := #[.slice A0_0 l0_0.length c0_0, .slice A0_1 l0_1.length c0_1, .slice A0_2 l0_2.length c0_2]) (t := 37) ?hr ?_; (case hd => rfl); (case hg => rfl); (case hr => first | (go_simp; done) | (go_simp; rfl)); intro g2 hg wb hbox hb; have HG2 := Qf.mk hg; have HB := Qf.mk hb; have B2 := Qf.mk hbox; have hl2 := QR hbox; clear hb hbox hg; have z0 := (Qe B2.out 0).trans (rfl : _ = some (Value.slice A0_0 l0_0.length c0_0)); have z1 := (Qe B2.out 1).trans (rfl : _ = some (Value.slice A0_1 l0_1.length c0_1)); have z2 := (Qe B2.out 2).trans (rfl : _ = some (Value.slice A0_2 l0_2.length c0_2))) | (go_at_call 36; refine (QA.calls k _ _ _ _ _ _ _ _ _ e0 _ (Kd.Qr HR0.out (Qi HB.out _)) HC0 (Kd.Qr HR1.out (Qi HB.out _)) HC1 (Kd.Qr HR2.out (Qi HB.out _)) HC2 HE.out).mono ?_; rintro e w1 ⟨rfl, hb1⟩; have HB1 := Qf.mk (Qo (Qi HB.out _) hb1); have C2 := Qf.mk ((hb1.block _ (Nat.lt_of_lt_of_le hl2 (Qi (Below.refl _ _) _).size)).trans (Qb B2.out _)); have C4 := Qf.mk ((hb1.block wb.heap.size (by simp)).trans (blk_at rfl)); have HG4 := Qf.mk (show g2 < wb.heap.size from hl2); clear hb1 z0 z1 z2; have hl4 := QR C4.out; have hl2' := QR C2.out; have z0 := (Qe C2.out 0).trans (rfl : _ = some (Value.slice A0_0 l0_0.length c0_0)); have z1 := (Qe C2.out 1).trans (rfl : _ = some (Value.slice A0_1 l0_1.length c0_1)); have z2 := (Qe C2.out 2).trans (rfl : _ = some (Value.slice A0_2 l0_2.length c0_2)); have f4 := Qc C4.out 0; have f4' := Qc C4.out 1; have y0 := (Qe C4.out 0).trans (rfl : _ = some (Value.int .i64 0)); have y1 := (Qe C4.out 1).trans (rfl : _ = some (Value.slice none 0 0))))
  refine bodyPost_ret (results_cell_row rfl _ _ wb.heap.size 51 #[.int .i64 0, .slice none 0 0] (0, 0) _ rfl (by refine Qy (cs := #[.int .i64 0, .slice none 0 0]) ?_ 1 _ rfl; refine Qy (cs := #[.int .i64 0, .slice none 0 0]) ?_ 0 _ rfl; exact C4.out) Try.underlying51 rfl (by kernel_rfl)) rfl ?_
  have hg4g : w.heap.size ≤ wb.heap.size := HB.out.size
  exact ⟨_, rfl, Kd.R_nil _ _ _ _ _, (HB1.out.setCell hg4g _).setCell hg4g _⟩
 rw [if_pos e00] at h
 have b0 : (e0 != 0) = false := bne_eq_false_iff_eq.2 e00
 have E0 := Qf.mk e00
 clear e00
 by_cases hlim : l0_0.length ≤ 1000000 ∧ l0_2.length ≤ 1000000
 case neg => rw [if_neg hlim] at h; cases h
 rw [if_pos hlim] at h
 obtain ⟨hlim0, hlim2⟩ := hlim
 replace h := Option.bind_eq_some_iff.1 h
 obtain ⟨out, hout, h⟩ := h
 replace h := Option.bind_eq_some_iff.1 h
 obtain ⟨arcs, harcs, h⟩ := h
 by_cases hal : arcs.length ≤ 7000000000000
 case neg => rw [if_neg hal] at h; cases h
 rw [if_pos hal] at h
 have HOUT := Qf.mk hout
 have HARCS := Qf.mk harcs
 have HRES := Qf.mk h
 clear hout harcs h
 go_enter Try.func23, Try.ntmps23
 go_wp2_with (first | ((with_reducible refine QM (N := 2) rfl ?_); refine QI ?hg (N := 2) ?hd (cs := #[.slice A0_0 l0_0.length c0_0, .slice A0_1 l0_1.length c0_1, .slice A0_2 l0_2.length c0_2]) (t := 37) ?hr ?_; (case hd => rfl); (case hg => rfl); (case hr => first | (go_simp; done) | (go_simp; rfl)); intro g2 hg wb hbox hb; have HG2 := Qf.mk hg; have HB := Qf.mk hb; have B2 := Qf.mk hbox; have hl2 := QR hbox; clear hb hbox hg; have z0 := (Qe B2.out 0).trans (rfl : _ = some (Value.slice A0_0 l0_0.length c0_0)); have z1 := (Qe B2.out 1).trans (rfl : _ = some (Value.slice A0_1 l0_1.length c0_1)); have z2 := (Qe B2.out 2).trans (rfl : _ = some (Value.slice A0_2 l0_2.length c0_2))) | (go_at_call 36; refine (QA.calls k _ _ _ _ _ _ _ _ _ e0 _ (Kd.Qr HR0.out (Qi HB.out _)) HC0 (Kd.Qr HR1.out (Qi HB.out _)) HC1 (Kd.Qr HR2.out (Qi HB.out _)) HC2 HE.out).mono ?_; rintro e w1 ⟨rfl, hb1⟩; have HB1 := Qf.mk (Qo (Qi HB.out _) hb1); have C2 := Qf.mk ((hb1.block _ (Nat.lt_of_lt_of_le hl2 (Qi (Below.refl _ _) _).size)).trans (Qb B2.out _)); have C4 := Qf.mk ((hb1.block wb.heap.size (by simp)).trans (blk_at rfl)); have HG4 := Qf.mk (show g2 < wb.heap.size from hl2); clear hb1 z0 z1 z2; have hl4 := QR C4.out; have hl2' := QR C2.out; have z0 := (Qe C2.out 0).trans (rfl : _ = some (Value.slice A0_0 l0_0.length c0_0)); have z1 := (Qe C2.out 1).trans (rfl : _ = some (Value.slice A0_1 l0_1.length c0_1)); have z2 := (Qe C2.out 2).trans (rfl : _ = some (Value.slice A0_2 l0_2.length c0_2)); have f4 := Qc C4.out 0; have f4' := Qc C4.out 1; have y0 := (Qe C4.out 0).trans (rfl : _ = some (Value.int .i64 0)); have y1 := (Qe C4.out 1).trans (rfl : _ = some (Value.slice none 0 0))))
 go_quiet (fail)
 have D2 : Qf ((w1.drewN nq).heap[g2]? = some (.cells #[.slice A0_0 l0_0.length c0_0, .slice A0_1 l0_1.length c0_1, .slice A0_2 l0_2.length c0_2] 37 (0, 0))) := ⟨C2.out⟩
 have D4 : Qf ((w1.drewN nq).heap[wb.heap.size]? = some (.cells #[.int .i64 0, .slice none 0 0] 51 (0, 0))) := ⟨C4.out⟩
 have HBq : Qf (Below w.heap.size w (w1.drewN nq)) := ⟨Qa HB1.out nq⟩
 have HG2' : Qf (w.heap.size ≤ g2) := ⟨by rw [HG2.out]; exact Nat.le_refl _⟩
 obtain ⟨g4, hg4⟩ : ∃ g, g = wb.heap.size := ⟨_, rfl⟩
 rw [← hg4] at D4 HG4 ⊢
 clear hg4 C2 C4 HB1 z0 z1 z2 y0 y1 f4 f4' hl4 hl2' hl2 HB B2 HG2
 generalize w1.drewN nq = wq at D2 D4 HBq ⊢
 have hl2 := QR D2.out
 have hl4 := QR D4.out
 have z0 := (Qe D2.out 0).trans (rfl : _ = some (Value.slice A0_0 l0_0.length c0_0))
 have z1 := (Qe D2.out 1).trans (rfl : _ = some (Value.slice A0_1 l0_1.length c0_1))
 have z2 := (Qe D2.out 2).trans (rfl : _ = some (Value.slice A0_2 l0_2.length c0_2))
 have BQ := Qf.mk (Qi HBq.out (.cells #[.int .i64 ((l0_2.length : Int) + 2 * (l0_0.length : Int)), .slice none 0 0] 51))
 go_wp2_with (go_at_call 38; refine (QJ.calls k _ _ _ _ _ _ _ _ _ out _ (Kd.Qr HR0.out BQ.out) HC0 (Kd.Qr HR1.out BQ.out) HC1 (Kd.Qr HR2.out BQ.out) HC2 HOUT.out).mono ?_; rintro e W0 ⟨vo, rfl, hS, hb1⟩; have HS := Qf.mk hS; have HBW := Qf.mk hb1; have E2 := Qf.mk ((hb1.block _ (Nat.lt_of_lt_of_le hl2 (Qi (Below.refl _ _) _).size)).trans (Qb D2.out _)); have E4 := Qf.mk ((hb1.block _ (Nat.lt_of_lt_of_le hl4 (Qi (Below.refl _ _) _).size)).trans (Qb D4.out _)); have E7 := Qf.mk ((hb1.block wq.heap.size (by simp)).trans (blk_at rfl)); clear hS hb1 z0 z1 z2; have z2 := (Qe E2.out 2).trans (rfl : _ = some (Value.slice A0_2 l0_2.length c0_2)))
 have HBL := Qf.mk (Qo BQ.out HBW.out)
 have hg2le : w.heap.size ≤ wq.heap.size := HBq.out.size
 have hS1 : Kd.S (Kd.slice 3 (Kd.int .i64)) 33 W0 (wq.heap.size + 1) (fun k => wq.heap.size + 1 ≤ k) vo out := by
  have hb := Kd.S_bound HS.out
  have hsz : (wq.alloc (.cells #[.int .i64 ((l0_2.length : Int) + 2 * (l0_0.length : Int)), .slice none 0 0] 51)).heap.size = wq.heap.size + 1 := by simp
  rw [hsz] at hb
  exact Kd.S_mono hb (fun k hk => hk.2.1)
 have HS1 := Qf.mk hS1
 have hg7 : wq.heap.size < W0.heap.size := QR E7.out
 obtain ⟨g7, hg7e⟩ : ∃ g, g = wq.heap.size := ⟨_, rfl⟩
 have hg27 : g2 ≠ g7 := by rw [hg7e]; omega
 have hg47 : g4 ≠ g7 := by rw [hg7e]; omega
 rw [← hg7e] at E7 HS1 hg7 hg2le ⊢
 have HNE := Qf.mk (And.intro hg27 hg47)
 clear hg7e HS HBW hS1 HBq BQ D2 D4 hl2 hl4 hg27 hg47
 have HN1 : l0_2.length ≤ 1000000 := hlim2
 go_loopg [39] l0_2.length (fun kq v39 w' => ∃ (k : Nat) (v : Value), v39 = .int .i64 k ∧ Qf (k + kq = l0_2.length) ∧ Qf (w'.heap[g7]? = some (.cells #[.int .i64 ((l0_2.length : Int) + 2 * (l0_0.length : Int)), v] 51 (0, 0))) ∧ Qf (Kd.R k92 92 w' w.heap.size (fun k => W0.heap.size ≤ k) v ((ex1 l0_2.length 0 l0_2).take k)) ∧ Qf (KeepBut W0 w' g7 none) ∧ Qf (Below w.heap.size w w'))
 case atStart => exact ⟨0, .slice none 0 0, rfl, ⟨by omega⟩, E7, ⟨by rw [List.take_zero]; exact Kd.R_nil _ _ _ _ _⟩, ⟨KeepBut.refl _ _ _⟩, HBL⟩
 case round =>
  obtain ⟨k', v, rfl, HK, HG7, HRr, HKr, HB⟩ := hrel
  by_cases hk : k' < l0_2.length
  ·obtain ⟨adp, Ap, cp, ep, x0, x1, x2, x3, x4, x5, x6, x7, hlp, hkp⟩ := at_T58 HR2.out (k' : Int) (by omega) (by omega)
   subst ep
   rw [Int.toNat_natCast] at x0 x1 x2 x3 x4 x5 x6 x7
   have HTK := Qf.mk (ex1_take l0_2.length l0_2 k' hk)
   obtain ⟨p, hp⟩ : ∃ p, p = Qh l0_2 k' := ⟨_, rfl⟩
   rw [← hp] at x0 x1 x2 x3 x4 x5 x6 x7 hlp hkp HTK
   clear hp
   have HKP := Qf.mk hkp
   clear hkp
   replace x0 := (HB.out.cell (World.block_lt_of_cell? w _ x0)).trans x0
   replace x1 := (HB.out.cell (World.block_lt_of_cell? w _ x1)).trans x1
   replace x2 := (HB.out.cell (World.block_lt_of_cell? w _ x2)).trans x2
   replace x3 := (HB.out.cell (World.block_lt_of_cell? w _ x3)).trans x3
   replace x4 := (HB.out.cell (World.block_lt_of_cell? w _ x4)).trans x4
   replace x5 := (HB.out.cell (World.block_lt_of_cell? w _ x5)).trans x5
   replace x6 := (HB.out.cell (World.block_lt_of_cell? w _ x6)).trans x6
   replace x7 := (HB.out.cell (World.block_lt_of_cell? w _ x7)).trans x7
   have hkd : decide ((k' : Int) < (l0_2.length : Int)) = true := decide_eq_true (by omega)
   have hkd' : decide (k' < l0_2.length) = true := decide_eq_true hk
   go_wp2_with (go_at_call 42; refine (add_calls _ _ g7 _ v _ w.heap.size w W0 _ (Qb HG7.out _) hg2le hg7 (Kd.QP HRr.out _) (keep_alloc HKr.out _) (Qi HB.out _) (by have := List.length_take_le k' (ex1 l0_2.length 0 l0_2); omega)).mono ?_; rintro e w2 ⟨rfl, v1, hg1, hr1, hk1, hb1, ho1⟩; have HG1 := Qf.mk hg1; have HRR1 := Qf.mk hr1; have HKK1 := Qf.mk hk1; have HBB1 := Qf.mk hb1; have HOO1 := Qf.mk ho1; clear hg1 hr1 hk1 hb1 ho1)
   go_roundg (gk - 1)
   case measure => have := HK.out; omega
   case rel => exact ⟨k' + 1, v1, by go_num, ⟨by have := HK.out; omega⟩, HG1, ⟨by rw [HTK.out]; exact HRR1.out⟩, HKK1, HBB1⟩
  ·have hkd : decide ((k' : Int) < (l0_2.length : Int)) = false := decide_eq_false (by omega)
   have hkd' : decide (k' < l0_2.length) = false := decide_eq_false hk
   clear z2
   have F2 := Qf.mk (HKr.out.blk E2.out HNE.out.1 (by simp))
   have z2 := (Qe F2.out 2).trans (rfl : _ = some (Value.slice A0_2 l0_2.length c0_2))
   have hfull : (ex1 l0_2.length 0 l0_2).take k' = ex1 l0_2.length 0 l0_2 := List.take_of_length_le (by rw [ex1_length]; omega)
   have hR' := HRr.out
   rw [hfull] at hR'
   have HRF := Qf.mk hR'
   clear hfull hR' HRr
   obtain ⟨wr0, hwr0⟩ : ∃ x : World, x = wr := ⟨_, rfl⟩
   rw [← hwr0] at z2 F2 HG7 HRF HKr HB ⊢
   clear hwr0
   obtain ⟨Ao, co, hvo⟩ := Kd.S_slice HS1.out
   subst hvo
   go_wp2_with fail
   go_loopg [55] l0_2.length (fun kq v55 w' => ∃ (k : Nat) (v : Value) (acc : List S92), v55 = .int .i64 k ∧ Qf (k + kq = l0_2.length) ∧ Qf (exOut (fun a b => Jaa.f l0_0 l0_1 l0_2 l1 (out.getD (Qh l0_2 a).f1.toNat []) a b) out k (l0_2.drop k) acc = some arcs) ∧ Qf (w'.heap[g7]? = some (.cells #[.int .i64 ((l0_2.length : Int) + 2 * (l0_0.length : Int)), v] 51 (0, 0))) ∧ Qf (Kd.R k92 92 w' w.heap.size (fun k => W0.heap.size ≤ k) v acc) ∧ Qf (KeepBut W0 w' g7 none) ∧ Qf (Below w.heap.size w w'))
   case atStart => exact ⟨0, v, _, rfl, ⟨by omega⟩, HARCS, HG7, HRF, HKr, HB⟩
   case round =>
    clear HRF HG7 HB HKr z2 F2 hkd hkd' hk HK
    obtain ⟨k2, v2, acc, rfl, HK, HX, HG7, HRr, HKr, HB⟩ := hrel
    by_cases hk : k2 < l0_2.length
    ·obtain ⟨adp, Ap, cp, ep, x0, x1, x2, x3, x4, x5, x6, x7, hlp, hkp⟩ := at_T58 HR2.out (k2 : Int) (by omega) (by omega)
     subst ep
     rw [Int.toNat_natCast] at x0 x1 x2 x3 x4 x5 x6 x7
     have hX := HX.out
     rw [drop58 l0_2 k2 hk, exOut] at hX
     have HPK := Qf.mk (rfl : Qh l0_2 (k2 : Int) = Qh l0_2 k2)
     obtain ⟨p, hp⟩ : ∃ p, p = Qh l0_2 k2 := ⟨_, rfl⟩
     rw [← hp] at x0 x1 x2 x3 x4 x5 x6 x7 hlp hkp hX
     have HP := Qf.mk hp
     have HKP := Qf.mk hkp
     clear hkp hp HX HPK
     by_cases hpb : 0 ≤ p.f1 ∧ p.f1 < (out.length : Int)
     case neg => rw [if_neg hpb] at hX; cases hX
     rw [if_pos hpb] at hX
     obtain ⟨hp0, hp1⟩ := hpb
     replace hX := Option.bind_eq_some_iff.1 hX
     obtain ⟨acc2, hin, hX⟩ := hX
     have HIN := Qf.mk hin
     have HX2 := Qf.mk hX
     clear hX hin
     obtain ⟨gS, A0, c0, hAo, hgS, hcS, hrow⟩ := row_at HS1.out p.f1 hp0 hp1
     cases hAo
     obtain ⟨row, hrw⟩ : ∃ row, row = out.getD p.f1.toNat [] := ⟨_, rfl⟩
     rw [← hrw] at HIN hcS hrow
     have HRW := Qf.mk hrw
     have HROW := Qf.mk hrow
     clear hrow hrw
     have hgSn : gS ≠ g7 := by omega
     have hcS' := keep_cell HKr.out hcS hgSn
     have HCS := Qf.mk hcS
     have HGN := Qf.mk hgSn
     clear hcS hgSn
     replace x0 := (HB.out.cell (World.block_lt_of_cell? w _ x0)).trans x0
     replace x1 := (HB.out.cell (World.block_lt_of_cell? w _ x1)).trans x1
     replace x2 := (HB.out.cell (World.block_lt_of_cell? w _ x2)).trans x2
     replace x3 := (HB.out.cell (World.block_lt_of_cell? w _ x3)).trans x3
     replace x4 := (HB.out.cell (World.block_lt_of_cell? w _ x4)).trans x4
     replace x5 := (HB.out.cell (World.block_lt_of_cell? w _ x5)).trans x5
     replace x6 := (HB.out.cell (World.block_lt_of_cell? w _ x6)).trans x6
     replace x7 := (HB.out.cell (World.block_lt_of_cell? w _ x7)).trans x7
     have hgSl := World.block_lt_of_cell? _ _ hcS'
     have hgSl' := Nat.lt_succ_of_lt hgSl
     have hkd : decide ((k2 : Int) < (l0_2.length : Int)) = true := decide_eq_true (by omega)
     have hkd' : decide (k2 < l0_2.length) = true := decide_eq_true hk
     obtain ⟨wo, hwo⟩ : ∃ x : World, x = wr := ⟨_, rfl⟩
     rw [← hwo] at HG7 HRr HKr HB x0 x1 x2 x3 x4 x5 x6 x7 hcS' hgSl hgSl' ⊢
     clear hwo
     go_wp2_with fail
     have I7 := Qf.mk (Qb HG7.out (.cells #[.int .i64 p.f0, .int .i64 p.f1, .int .i64 p.f2, .int .i64 p.f3, .int .i64 p.f4, .slice Ap p.f5.f0.length cp, .int .i64 p.f5.f1, .int .i64 p.f5.f2] 58))
     have IR := Qf.mk (Kd.QP HRr.out (.cells #[.int .i64 p.f0, .int .i64 p.f1, .int .i64 p.f2, .int .i64 p.f3, .int .i64 p.f4, .slice Ap p.f5.f0.length cp, .int .i64 p.f5.f1, .int .i64 p.f5.f2] 58))
     have IK := Qf.mk (keep_alloc HKr.out (.cells #[.int .i64 p.f0, .int .i64 p.f1, .int .i64 p.f2, .int .i64 p.f3, .int .i64 p.f4, .slice Ap p.f5.f0.length cp, .int .i64 p.f5.f1, .int .i64 p.f5.f2] 58))
     have IB := Qf.mk (Qi HB.out (.cells #[.int .i64 p.f0, .int .i64 p.f1, .int .i64 p.f2, .int .i64 p.f3, .int .i64 p.f4, .slice Ap p.f5.f0.length cp, .int .i64 p.f5.f1, .int .i64 p.f5.f2] 58))
     have I13 := Qf.mk (blk_at (W := wo) (n := wo.heap.size) (o := .cells #[.int .i64 p.f0, .int .i64 p.f1, .int .i64 p.f2, .int .i64 p.f3, .int .i64 p.f4, .slice Ap p.f5.f0.length cp, .int .i64 p.f5.f1, .int .i64 p.f5.f2] 58) rfl)
     have hg13 : W0.heap.size ≤ wo.heap.size := HKr.out.1
     obtain ⟨g13, hg13e⟩ : ∃ g, g = wo.heap.size := ⟨_, rfl⟩
     rw [← hg13e] at I13 hg13 ⊢
     have hg137 : g13 ≠ g7 := by omega
     have HN13 := Qf.mk hg137
     obtain ⟨wi, hwi⟩ : ∃ x : World, x = wo.alloc (.cells #[.int .i64 p.f0, .int .i64 p.f1, .int .i64 p.f2, .int .i64 p.f3, .int .i64 p.f4, .slice Ap p.f5.f0.length cp, .int .i64 p.f5.f1, .int .i64 p.f5.f2] 58) := ⟨_, rfl⟩
     rw [← hwi] at I7 IR IK IB I13 ⊢
     clear hwi hg13e HG7 HRr HKr HB x0 x1 x2 x3 x4 x5 x6 x7 hcS' hgSl hgSl' hg137
     obtain ⟨gko, hgko⟩ : ∃ g, g = gk := ⟨_, rfl⟩
     rw [← hgko] at HK
     have HGK := Qf.mk hgko
     clear hgko
     have hgk1 : 0 < gko := by have := HK.out; omega
     have HRL : row.length ≤ 9223372036854775807 := (Kd.R_reads' HROW.out).2.2.2.1
     go_loopg [66] row.length (fun kq v66 w' => ∃ (j : Nat) (v : Value) (acc : List S92), v66 = .int .i64 j ∧ Qf (j + kq = row.length) ∧ Qf (exIn (fun b => Jaa.f l0_0 l0_1 l0_2 l1 row k2 b) k2 (row.drop j) acc = some acc2) ∧ Qf (w'.heap[g7]? = some (.cells #[.int .i64 ((l0_2.length : Int) + 2 * (l0_0.length : Int)), v] 51 (0, 0))) ∧ Qf (Kd.R k92 92 w' w.heap.size (fun k => W0.heap.size ≤ k) v acc) ∧ Qf (KeepBut W0 w' g7 none) ∧ Qf (Below w.heap.size w w') ∧ Qf (w'.heap[g13]? = some (.cells #[.int .i64 p.f0, .int .i64 p.f1, .int .i64 p.f2, .int .i64 p.f3, .int .i64 p.f4, .slice Ap p.f5.f0.length cp, .int .i64 p.f5.f1, .int .i64 p.f5.f2] 58 (0, 0))))
     case atStart => exact ⟨0, v2, acc, rfl, ⟨by omega⟩, HIN, I7, IR, IK, IB, I13⟩
     case round =>
      clear I7 IR IK IB I13 hkd hkd' HIN
      obtain ⟨j, v3, acc3, rfl, HJ, HIN, HG7, HRr, HKr, HB, H13⟩ := hrel
      by_cases hj : j < row.length
      ·have hI := HIN.out
       rw [dropInt row j hj, exIn] at hI
       by_cases hal3 : acc3.length ≤ 7000000000000
       case neg => rw [if_neg hal3] at hI; cases hI
       rw [if_pos hal3] at hI
       replace hI := Option.bind_eq_some_iff.1 hI
       obtain ⟨bq, hbq, hI⟩ := hI
       have HBQ := Qf.mk hbq
       have HI2 := Qf.mk hI
       clear hI hbq HIN
       have RR := Kd.R_reads' (Kd.R_keep HROW.out HKr.out (fun k hk => by omega))
       have RRC := Qf.mk RR.2.2
       have hrc := RR.2.1
       clear RR
       obtain ⟨adr, er, hxr⟩ := Kd.at_int RRC.out (j : Int) (by omega) (by omega)
       cases er
       rw [Int.toNat_natCast] at hxr
       obtain ⟨bi, hbi⟩ : ∃ b, b = rd row j := ⟨_, rfl⟩
       rw [← hbi] at hxr HBQ HI2
       clear hbi
       have F2 := Qf.mk (HKr.out.blk E2.out HNE.out.1 (by simp))
       have z0 := (Qe F2.out 0).trans (rfl : _ = some (Value.slice A0_0 l0_0.length c0_0))
       have z1 := (Qe F2.out 1).trans (rfl : _ = some (Value.slice A0_1 l0_1.length c0_1))
       have z2 := (Qe F2.out 2).trans (rfl : _ = some (Value.slice (some adp) l0_2.length c0_2))
       have p1 := (Qe H13.out 1).trans (rfl : _ = some (Value.int .i64 p.f1))
       have hcS' := keep_cell HKr.out HCS.out HGN.out
       have hkd : decide ((j : Int) < (row.length : Int)) = true := decide_eq_true (by omega)
       have hkd' : decide (j < row.length) = true := decide_eq_true hj
       cases bq with
       | false =>
        go_wp2
        go_still_tail 9, (by kernel_rfl)
        go_wp2_with (go_at_call 37; refine (Jaa.calls _ _ _ _ _ _ _ _ _ _ _ _ _ _ _ _ _ false _ (Kd.Qr HR0.out (QV HB.out)) HC0 (Kd.Qr HR1.out (QV HB.out)) HC1 (Kd.Qr HR2.out (QV HB.out)) HC2 (Kd.Qr HRT.out (QV HB.out)) HCT (Kd.Qr RRC.out (QV (Below.refl _ _))) hrc HBQ.out).mono ?_; rintro e w3 ⟨rfl, hb3⟩; have HB3 := Qf.mk (Qo (QV (Below.refl _ _)) hb3); clear hb3)
        go_roundg (gk - 1)
        case measure => have := HJ.out; omega
        case rel => exact ⟨j + 1, v3, acc3, by go_num, ⟨by have := HJ.out; omega⟩, ⟨by have := HI2.out; rwa [if_neg (by simp)] at this⟩, ⟨(HB3.out.block _ (QR HG7.out)).trans HG7.out⟩, ⟨Kd.R_below HRr.out HB3.out⟩, ⟨HKr.out.trans (KeepBut.of_below HB3.out g7 none) (.inl rfl)⟩, ⟨Qo HB.out HB3.out⟩, ⟨(HB3.out.block _ (QR H13.out)).trans H13.out⟩⟩
       | true =>
        go_wp2
        go_still_tail 9, (by kernel_rfl)
        go_wp2_with (first | (go_at_call 37; refine (Jaa.calls _ _ _ _ _ _ _ _ _ _ _ _ _ _ _ _ _ true _ (Kd.Qr HR0.out (QV HB.out)) HC0 (Kd.Qr HR1.out (QV HB.out)) HC1 (Kd.Qr HR2.out (QV HB.out)) HC2 (Kd.Qr HRT.out (QV HB.out)) HCT (Kd.Qr RRC.out (QV (Below.refl _ _))) hrc HBQ.out).mono ?_; rintro e w3 ⟨rfl, hb3⟩; have HB3 := Qf.mk (Qo (QV (Below.refl _ _)) hb3); clear hb3) | (go_at_call 42; refine (add_calls _ _ g7 _ v3 acc3 w.heap.size w W0 _ ((HB3.out.block _ (QR HG7.out)).trans HG7.out) hg2le hg7 (Kd.R_below HRr.out HB3.out) (HKr.out.trans (KeepBut.of_below HB3.out g7 none) (.inl rfl)) (Qo HB.out HB3.out) (by omega)).mono ?_; rintro e w4 ⟨rfl, v1, hg1, hr1, hk1, hb1, ho1⟩; have HG1 := Qf.mk hg1; have HRR1 := Qf.mk hr1; have HKK1 := Qf.mk hk1; have HBB1 := Qf.mk hb1; have HOO1 := Qf.mk ho1; clear hg1 hr1 hk1 hb1 ho1))
        go_roundg (gk - 1)
        case measure => have := HJ.out; omega
        case rel => exact ⟨j + 1, v1, _, by go_num, ⟨by have := HJ.out; omega⟩, ⟨by have := HI2.out; first | rwa [if_pos rfl] at this | rwa [if_pos trivial] at this⟩, HG1, HRR1, HKK1, HBB1, ⟨HOO1.out _ _ 58 (by decide) HN13.out ((HB3.out.block _ (QR H13.out)).trans H13.out)⟩⟩
      ·have hkd : decide ((j : Int) < (row.length : Int)) = false := decide_eq_false (by omega)
       have hkd' : decide (j < row.length) = false := decide_eq_false hj
       have hI := HIN.out
       rw [List.drop_eq_nil_of_le (by omega), exIn] at hI
       obtain rfl := Option.some.inj hI
       clear hI HIN
       go_wp2_with fail
       go_roundg (gko - 1)
       case measure => have := HK.out; have := HGK.out; omega
       case rel => exact ⟨k2 + 1, v3, acc3, by go_num, ⟨by have := HK.out; omega⟩, ⟨HX2.out⟩, HG7, HRr, HKr, HB⟩
    ·have hkd : decide ((k2 : Int) < (l0_2.length : Int)) = false := decide_eq_false (by omega)
     have hkd' : decide (k2 < l0_2.length) = false := decide_eq_false hk
     have hX := HX.out
     rw [List.drop_eq_nil_of_le (by omega), exOut] at hX
     obtain rfl := Option.some.inj hX
     clear hX HX
     have F2 := Qf.mk (HKr.out.blk E2.out HNE.out.1 (by simp))
     have z2 := (Qe F2.out 2).trans (rfl : _ = some (Value.slice A0_2 l0_2.length c0_2))
     go_wp2_with fail
     go_loopg [89] l0_2.length (fun kq v89 w' => ∃ (k : Nat) (v : Value), v89 = .int .i64 k ∧ Qf (k + kq = l0_2.length) ∧ Qf (w'.heap[g7]? = some (.cells #[.int .i64 ((l0_2.length : Int) + 2 * (l0_0.length : Int)), v] 51 (0, 0))) ∧ Qf (Kd.R k92 92 w' w.heap.size (fun k => W0.heap.size ≤ k) v (acc ++ (ex3 ((l0_2.length : Int) + (l0_0.length : Int)) 0 l0_2).take k)) ∧ Qf (KeepBut W0 w' g7 none) ∧ Qf (Below w.heap.size w w'))
     case atStart => exact ⟨0, v2, rfl, ⟨by omega⟩, HG7, ⟨by rw [List.take_zero, List.append_nil]; exact HRr.out⟩, HKr, HB⟩
     case round =>
      clear z2 F2 HRr HG7 HKr HB hkd hkd' hk HK
      obtain ⟨k3, v3, rfl, HK, HG7, HRr, HKr, HB⟩ := hrel
      by_cases hk : k3 < l0_2.length
      ·obtain ⟨adp, Ap, cp, ep, x0, x1, x2, x3, x4, x5, x6, x7, hlp, hkp⟩ := at_T58 HR2.out (k3 : Int) (by omega) (by omega)
       subst ep
       rw [Int.toNat_natCast] at x0 x1 x2 x3 x4 x5 x6 x7
       have HTK := Qf.mk (ex3_take ((l0_2.length : Int) + (l0_0.length : Int)) l0_2 k3 hk)
       obtain ⟨p, hp⟩ : ∃ p, p = Qh l0_2 k3 := ⟨_, rfl⟩
       rw [← hp] at x0 x1 x2 x3 x4 x5 x6 x7 hlp hkp HTK
       clear hp
       have HKP := Qf.mk hkp
       clear hkp
       replace x0 := (HB.out.cell (World.block_lt_of_cell? w _ x0)).trans x0
       replace x1 := (HB.out.cell (World.block_lt_of_cell? w _ x1)).trans x1
       replace x2 := (HB.out.cell (World.block_lt_of_cell? w _ x2)).trans x2
       replace x3 := (HB.out.cell (World.block_lt_of_cell? w _ x3)).trans x3
       replace x4 := (HB.out.cell (World.block_lt_of_cell? w _ x4)).trans x4
       replace x5 := (HB.out.cell (World.block_lt_of_cell? w _ x5)).trans x5
       replace x6 := (HB.out.cell (World.block_lt_of_cell? w _ x6)).trans x6
       replace x7 := (HB.out.cell (World.block_lt_of_cell? w _ x7)).trans x7
       have hkd : decide ((k3 : Int) < (l0_2.length : Int)) = true := decide_eq_true (by omega)
       have hkd' : decide (k3 < l0_2.length) = true := decide_eq_true hk
       go_wp2_with (go_at_call 42; refine (add_calls _ _ g7 _ v3 _ w.heap.size w W0 _ (Qb HG7.out _) hg2le hg7 (Kd.QP HRr.out _) (keep_alloc HKr.out _) (Qi HB.out _) (by rw [List.length_append]; have := List.length_take_le k3 (ex3 ((l0_2.length : Int) + (l0_0.length : Int)) 0 l0_2); omega)).mono ?_; rintro e w2 ⟨rfl, v1, hg1, hr1, hk1, hb1, ho1⟩; have HG1 := Qf.mk hg1; have HRR1 := Qf.mk hr1; have HKK1 := Qf.mk hk1; have HBB1 := Qf.mk hb1; clear hg1 hr1 hk1 hb1 ho1)
       go_roundg (gk - 1)
       case measure => have := HK.out; omega
       case rel => exact ⟨k3 + 1, v1, by go_num, ⟨by have := HK.out; omega⟩, HG1, ⟨by rw [HTK.out, ← List.append_assoc]; exact HRR1.out⟩, HKK1, HBB1⟩
      ·have hkd : decide ((k3 : Int) < (l0_2.length : Int)) = false := decide_eq_false (by omega)
       have hkd' : decide (k3 < l0_2.length) = false := decide_eq_false hk
       have Z4 := Qf.mk (HKr.out.blk E4.out HNE.out.2 (by simp))
       have hfull : (ex3 ((l0_2.length : Int) + (l0_0.length : Int)) 0 l0_2).take k3 = ex3 ((l0_2.length : Int) + (l0_0.length : Int)) 0 l0_2 := List.take_of_length_le (by rw [ex3_length]; omega)
       have hR' := HRr.out
       rw [hfull] at hR'
       have HRF := Qf.mk hR'
       clear hfull hR' HRr
       obtain ⟨hr1, hr2⟩ := Prod.mk.inj (Option.some.inj HRES.out)
       subst hr1
       subst hr2
       obtain ⟨Af, cf, rfl⟩ := Kd.R_slice HRF.out
       have u0 := (Qe HG7.out 0).trans (rfl : _ = some (Value.int .i64 ((l0_2.length : Int) + 2 * (l0_0.length : Int))))
       have u1 := (Qe HG7.out 1).trans (rfl : _ = some (Value.slice Af (acc ++ ex3 ((l0_2.length : Int) + (l0_0.length : Int)) 0 l0_2).length cf))
       have y0 := (Qe Z4.out 0).trans (rfl : _ = some (Value.int .i64 0))
       have y1 := (Qe Z4.out 1).trans (rfl : _ = some (Value.slice none 0 0))
       have f0 := Qc Z4.out 0
       have f1 := Qc Z4.out 1
       obtain ⟨nf, hnf⟩ : ∃ x, x = (acc ++ ex3 ((l0_2.length : Int) + (l0_0.length : Int)) 0 l0_2).length := ⟨_, rfl⟩
       rw [← hnf] at u1 HG7 HRF
       have HNF := Qf.mk hnf
       clear hnf
       go_wp2
       refine bodyPost_ret (results_cell_row rfl _ _ g4 51 #[.int .i64 ((l0_2.length : Int) + 2 * (l0_0.length : Int)), .slice Af nf cf] (0, 0) _ rfl (by refine Qy (cs := #[.int .i64 ((l0_2.length : Int) + 2 * (l0_0.length : Int)), .slice none 0 0]) ?_ 1 _ rfl; refine Qy (cs := #[.int .i64 0, .slice none 0 0]) ?_ 0 _ rfl; exact Z4.out) Try.underlying51 rfl (by kernel_rfl)) rfl ?_
       have hg4l : g4 < W0.heap.size := QR E4.out
       have hg4g : w.heap.size ≤ g4 := by have := HG2'.out; have := HG4.out; omega
       exact ⟨_, rfl, Kd.Q9 (Kd.R_far (p := ⟨g4, 1, none⟩) (Kd.R_far (p := ⟨g4, 0, none⟩) HRF.out (fun k hk => by show k ≠ g4; omega) _) (fun k hk => by show k ≠ g4; omega) _) (fun _ _ => trivial), (HB.out.setCell hg4g _).setCell hg4g _⟩

-- NOT PRINTED: function 46 (mapmakerlaw47_piece)

-- NOT PRINTED: function 29 (mapmakerlaw47_cross)

/-! ### Q6: function 9 (a contract of our own) -/

set_option maxHeartbeats 4000000 in
set_option maxRecDepth 100000 in
theorem piece_calls (a b c : Int) (w : World) :
  Calls Try.prog 46 #[.int .i64 a, .int .i64 b, .int .i64 c] w fun e w' => e = .returned (.agg #[.int .i64 a, .int .i64 b, .int .i64 c, .int .i64 9, .int .i64 1, .slice none 0 0, .int .i64 0, .int .i64 0]) ∧ w' = w.alloc (.cells #[.int .i64 a, .int .i64 b, .int .i64 c, .int .i64 9, .int .i64 1, .slice none 0 0, .int .i64 0, .int .i64 0] 58) := by
 go_enter Try.func46, Try.ntmps46
 go_wp2
 refine bodyPost_ret (results_cell_row rfl _ _ w.heap.size 58 #[.int .i64 a, .int .i64 b, .int .i64 c, .int .i64 9, .int .i64 1, .slice none 0 0, .int .i64 0, .int .i64 0] (0, 0) _ rfl (blk_at rfl) Try.underlying58 rfl (by kernel_rfl)) rfl ?_
 exact ⟨rfl, rfl⟩
theorem ret29 {Q : Ending → World → Prop} {tmps : Array Value} {W : World} (g : Nat) {x0 x1 x2 : Value} (hp : tmps.getD 0 undef = .pointer (some ⟨g, 0, none⟩)) (hb : W.heap[g]? = some (.cells #[x0, x1, x2] 37 (0, 0))) (h : Q (.returned (.agg #[x0, x1, x2])) W) : bodyPost Try.prog Try.f29 Q Exit.ret ⟨tmps, []⟩ W :=
 bodyPost_ret (results_cell_row rfl _ _ g 37 #[x0, x1, x2] (0, 0) _ hp hb Try.underlying37 rfl (by kernel_rfl)) rfl h
set_option maxHeartbeats 4000000 in
set_option maxRecDepth 100000 in
theorem cross_calls (w : World) :
  Calls Try.prog 29 #[] w fun e w' => ∃ g0 g1 g2 : Nat, e = .returned (.agg #[.slice (some ⟨g0, 0, none⟩) 4 4, .slice (some ⟨g1, 0, none⟩) 4 4, .slice (some ⟨g2, 0, none⟩) 3 3]) ∧
   w'.heap[g0]? = some (.cells #[.int .i64 1, .int .i64 2, .int .i64 3, .int .i64 4] 3 (0, 0)) ∧ w'.heap[g1]? = some (.cells #[.int .i64 0, .int .i64 0, .int .i64 0, .int .i64 0, .int .i64 0, .int .i64 0, .int .i64 0, .int .i64 0] 158 (0, 0)) ∧ w'.heap[g2]? = some (.cells #[.int .i64 0, .int .i64 1, .int .i64 1, .int .i64 9, .int .i64 1, .slice none 0 0, .int .i64 0, .int .i64 0, .int .i64 1, .int .i64 2, .int .i64 3, .int .i64 9, .int .i64 1, .slice none 0 0, .int .i64 0, .int .i64 0, .int .i64 1, .int .i64 3, .int .i64 4, .int .i64 9, .int .i64 1, .slice none 0 0, .int .i64 0, .int .i64 0] 58 (0, 0)) ∧ Below w.heap.size w w' := by
 have hmk : ∀ u : World, (Instr.makeSlice 34 (.int .i64 4) (.int .i64 4)).run Try.prog u = .ok (.slice (some ⟨u.heap.size, 0, none⟩) 4 4) (u.alloc (.cells #[.int .i64 0, .int .i64 0, .int .i64 0, .int .i64 0, .int .i64 0, .int .i64 0, .int .i64 0, .int .i64 0] 158)) := fun _ => by kernel_rfl
 go_enter Try.func29, Try.ntmps29
 go_wp2_with fail
 go_region_with ((go_at_call 46; refine (piece_calls _ _ _ _).mono ?_; rintro e w1 ⟨rfl, rfl⟩))
 all_goals
  go_wp2
  refine ret29 w.heap.size rfl (by (with_reducible repeat (first | exact blk_at rfl | exact blk_at (by simp; done) | refine Qg ?_ | refine Qb ?_ _))) ?_
  exact ⟨_, _, _, rfl, (by (with_reducible repeat (first | exact blk_at rfl | exact blk_at (by simp; done) | refine Qg ?_ | refine Qb ?_ _))), (by (with_reducible repeat (first | exact blk_at rfl | exact blk_at (by simp; done) | refine Qg ?_ | refine Qb ?_ _))), (by (with_reducible repeat (first | exact blk_at rfl | exact blk_at (by simp; done) | refine Qg ?_ | refine Qb ?_ _))), (by repeat (first | exact Below.refl _ _ | apply QV | apply Qi))⟩

def liNodes : List Int := [1, 2, 3, 4]
def liAt : List S158 := [z158, z158, z158, z158]
def liPc (a b c : Int) : S58 := ⟨a, b, c, 9, 1, ⟨[], 0, 0⟩⟩
def liPieces : List S58 := [liPc 0 1 1, liPc 1 2 3, liPc 1 3 4]
def liTurns : List S42 := [⟨1, 2, 3, false⟩]
theorem take_cell {w : World} {g : Nat} {t : TypeId} {cs : Array Value} (h : w.heap[g]? = some (.cells cs t (0, 0))) (m n : Nat) (i : Nat) (u : Value) (hu : ((cs.toList.drop m).take n)[i]? = some u) : w.cell? ((⟨g, 0, none⟩ : Addr).add (m + i)) = some u := by
 rw [add_plain, Qe h]
 rw [List.getElem?_take] at hu
 split at hu
 ·rw [List.getElem?_drop] at hu
  simpa using hu
 ·cases hu
theorem li_nodes {w : World} {g : Nat} (h : w.heap[g]? = some (.cells #[.int .i64 1, .int .i64 2, .int .i64 3, .int .i64 4] 3 (0, 0))) : Kd.C (Kd.int .i64) w (some ⟨g, 0, none⟩) liNodes.length liNodes := by
 refine ⟨rfl, by decide, fun _ => ⟨_, rfl, fun j p hj => ?_⟩⟩
 refine ⟨_, ?_, ?_, take_cell h (j * 1) 1⟩ <;> (rcases j with _ | _ | _ | _ | j <;> first | (cases hj; rfl) | (cases hj))
theorem li_at {w : World} {g : Nat} (h : w.heap[g]? = some (.cells #[.int .i64 0, .int .i64 0, .int .i64 0, .int .i64 0, .int .i64 0, .int .i64 0, .int .i64 0, .int .i64 0] 158 (0, 0))) : Kd.C k158 w (some ⟨g, 0, none⟩) liAt.length liAt := by
 refine ⟨rfl, by decide, fun _ => ⟨_, rfl, fun j p hj => ?_⟩⟩
 refine ⟨_, ?_, ?_, take_cell h (j * 2) 2⟩ <;> (rcases j with _ | _ | _ | _ | j <;> first | (cases hj; first | rfl | exact k158_mk _ _) | (cases hj))
theorem li_pieces {w : World} {g : Nat} (h : w.heap[g]? = some (.cells #[.int .i64 0, .int .i64 1, .int .i64 1, .int .i64 9, .int .i64 1, .slice none 0 0, .int .i64 0, .int .i64 0, .int .i64 1, .int .i64 2, .int .i64 3, .int .i64 9, .int .i64 1, .slice none 0 0, .int .i64 0, .int .i64 0, .int .i64 1, .int .i64 3, .int .i64 4, .int .i64 9, .int .i64 1, .slice none 0 0, .int .i64 0, .int .i64 0] 58 (0, 0))) : Kd.C k58 w (some ⟨g, 0, none⟩) liPieces.length liPieces := by
 refine ⟨rfl, by decide, fun _ => ⟨_, rfl, fun j p hj => ?_⟩⟩
 refine ⟨_, ?_, ?_, take_cell h (j * 8) 8⟩ <;> (rcases j with _ | _ | _ | j <;> first | (cases hj; first | rfl | exact k58_mk _ _ (Nat.zero_le _) (Kd.C_nil _ _)) | (cases hj))
theorem li_turns {w : World} {g : Nat} (h : w.heap[g]? = some (.cells #[.int .i64 1, .int .i64 2, .int .i64 3, .bool false] 42 (0, 0))) : Kd.C k42 w (some ⟨g, 0, none⟩) liTurns.length liTurns := by
 refine ⟨rfl, by decide, fun _ => ⟨_, rfl, fun j p hj => ?_⟩⟩
 refine ⟨_, ?_, ?_, take_cell h (j * 4) 4⟩ <;> (rcases j with _ | j <;> first | (cases hj; first | rfl | exact k42_mk _ _) | (cases hj))
theorem ex_values : turns_Allowed.f 40 liNodes liAt liPieces [] 0 1 = some true ∧ turns_Allowed.f 40 liNodes liAt liPieces liTurns 0 1 = some false ∧ turns_Allowed.f 40 liNodes liAt liPieces liTurns 0 2 = some true ∧ turns_Source.f 40 liNodes liAt liPieces 0 = some 3 ∧ turns_Target.f 40 liNodes liAt liPieces 0 = some 7 := by
 refine ⟨?_, ?_, ?_, ?_, ?_⟩ <;> decide +kernel
theorem ex_expand0 : (Q3.f 40 liNodes liAt liPieces liTurns).map (fun x => (x.1, x.2.length)) = some (11, 7) := by decide +kernel
theorem ex_expand : ∃ l, Q3.f 40 liNodes liAt liPieces liTurns = some (11, l) ∧ l.length = 7 := by
 have h := ex_expand0
 cases hf : Q3.f 40 liNodes liAt liPieces liTurns with
 | none => rw [hf] at h; cases h
 | some x =>
  rw [hf] at h
  simp only [Option.map_some, Option.some.injEq, Prod.mk.injEq] at h
  obtain ⟨h1, h2⟩ := h
  exact ⟨x.2, by rw [← h1], h2⟩

theorem li_expand (W : World) (A0 A1 A2 A3 : Option Addr) (hn : Kd.C (Kd.int .i64) W A0 liNodes.length liNodes) (ha : Kd.C k158 W A1 liAt.length liAt) (hp : Kd.C k58 W A2 liPieces.length liPieces) (ht : Kd.C k42 W A3 liTurns.length liTurns) :
  Calls Try.prog 23 #[.agg #[.slice A0 4 4, .slice A1 4 4, .slice A2 3 3], .slice A3 1 1] W fun e w' => ∃ A c, e = .returned (.agg #[.int .i64 11, .slice A 7 c]) ∧ Below W.heap.size W w' := by
 obtain ⟨la, hla, hla7⟩ := ex_expand
 refine (Q3.calls 40 A0 4 liNodes A1 4 liAt A2 3 liPieces A3 1 liTurns 11 la W hn (by decide) ha (by decide) hp (by decide) ht (by decide) hla).mono ?_
 rintro e w' ⟨v, rfl, hr, hb⟩
 obtain ⟨A, c, rfl⟩ := Kd.R_slice hr
 rw [hla7]
 exact ⟨A, c, rfl, hb⟩
theorem li_a1 (W : World) (A0 A1 A2 : Option Addr) (hn : Kd.C (Kd.int .i64) W A0 liNodes.length liNodes) (ha : Kd.C k158 W A1 liAt.length liAt) (hp : Kd.C k58 W A2 liPieces.length liPieces) :
  Calls Try.prog 14 #[.agg #[.slice A0 4 4, .slice A1 4 4, .slice A2 3 3], .slice none 0 0, .int .i64 0, .int .i64 1] W fun e w' => e = .returned (.bool true) ∧ Below W.heap.size W w' :=
 turns_Allowed.calls 40 A0 4 liNodes A1 4 liAt A2 3 liPieces none 0 [] 0 1 true W hn (by decide) ha (by decide) hp (by decide) (Kd.C_nil _ _) (by decide) ex_values.1
theorem li_a2 (W : World) (A0 A1 A2 A3 : Option Addr) (hn : Kd.C (Kd.int .i64) W A0 liNodes.length liNodes) (ha : Kd.C k158 W A1 liAt.length liAt) (hp : Kd.C k58 W A2 liPieces.length liPieces) (ht : Kd.C k42 W A3 liTurns.length liTurns) :
  Calls Try.prog 14 #[.agg #[.slice A0 4 4, .slice A1 4 4, .slice A2 3 3], .slice A3 1 1, .int .i64 0, .int .i64 1] W fun e w' => e = .returned (.bool false) ∧ Below W.heap.size W w' :=
 turns_Allowed.calls 40 A0 4 liNodes A1 4 liAt A2 3 liPieces A3 1 liTurns 0 1 false W hn (by decide) ha (by decide) hp (by decide) ht (by decide) ex_values.2.1
theorem li_a3 (W : World) (A0 A1 A2 A3 : Option Addr) (hn : Kd.C (Kd.int .i64) W A0 liNodes.length liNodes) (ha : Kd.C k158 W A1 liAt.length liAt) (hp : Kd.C k58 W A2 liPieces.length liPieces) (ht : Kd.C k42 W A3 liTurns.length liTurns) :
  Calls Try.prog 14 #[.agg #[.slice A0 4 4, .slice A1 4 4, .slice A2 3 3], .slice A3 1 1, .int .i64 0, .int .i64 2] W fun e w' => e = .returned (.bool true) ∧ Below W.heap.size W w' :=
 turns_Allowed.calls 40 A0 4 liNodes A1 4 liAt A2 3 liPieces A3 1 liTurns 0 2 true W hn (by decide) ha (by decide) hp (by decide) ht (by decide) ex_values.2.2.1
theorem li_source (W : World) (A0 A1 A2 : Option Addr) (hn : Kd.C (Kd.int .i64) W A0 liNodes.length liNodes) (ha : Kd.C k158 W A1 liAt.length liAt) (hp : Kd.C k58 W A2 liPieces.length liPieces) :
  Calls Try.prog 16 #[.agg #[.slice A0 4 4, .slice A1 4 4, .slice A2 3 3], .int .i64 0] W fun e w' => e = .returned (.int .i64 3) ∧ Below W.heap.size W w' :=
 turns_Source.calls 40 A0 4 liNodes A1 4 liAt A2 3 liPieces 0 3 W hn (by decide) ha (by decide) hp (by decide) ex_values.2.2.2.1
theorem li_target (W : World) (A0 A1 A2 : Option Addr) (hn : Kd.C (Kd.int .i64) W A0 liNodes.length liNodes) (ha : Kd.C k158 W A1 liAt.length liAt) (hp : Kd.C k58 W A2 liPieces.length liPieces) :
  Calls Try.prog 18 #[.agg #[.slice A0 4 4, .slice A1 4 4, .slice A2 3 3], .int .i64 0] W fun e w' => e = .returned (.int .i64 7) ∧ Below W.heap.size W w' :=
 turns_Target.calls 40 A0 4 liNodes A1 4 liAt A2 3 liPieces 0 7 W hn (by decide) ha (by decide) hp (by decide) ex_values.2.2.2.2
theorem li_of (W : World) : Calls Try.prog 11 #[.agg #[.slice none 0 0, .slice none 0 0, .slice none 0 0]] W fun e w' => ∃ A c, e = .returned (.slice A 0 c) ∧ Below W.heap.size W w' := by
 refine (turns_Of.calls none 0 [] none 0 [] none 0 [] [] W (Kd.C_nil _ _) (by decide) (Kd.C_nil _ _) (by decide) (Kd.C_nil _ _) (by decide) rfl).mono ?_
 rintro e w' ⟨v, rfl, hr, hb⟩
 obtain ⟨A, c, rfl⟩ := Kd.R_slice hr
 exact ⟨A, c, rfl, hb⟩

set_option maxHeartbeats 4000000 in
set_option maxRecDepth 100000 in
theorem lives_any (w : World) : Calls Try.prog 9 #[] w fun e w' => e = .returned (.bool true) ∧ Below w.heap.size w w' := by
 go_enter Try.func9, Try.ntmps9
 go_wp2_with fail
 refine (cross_calls _).mono ?_
 rintro e w1 ⟨g0, g1, g2, rfl, h0, h1, h2, hb⟩
 have N1 := Qf.mk (li_nodes h0)
 have A1 := Qf.mk (li_at h1)
 have P1 := Qf.mk (li_pieces h2)
 have HB1 := Qf.mk hb
 clear h0 h1 h2 hb
 go_wp2_with fail
 have H1T := Qf.mk (blk_at0 (W := w1) (n := w1.heap.size) (o := .cells #[.int .i64 1, .int .i64 2, .int .i64 3, .bool false] 42) rfl)
 have b2 : Below w1.heap.size w1 ((w1.alloc (.cells #[.int .i64 1, .int .i64 2, .int .i64 3, .bool false] 42)).alloc (.cells #[.slice (some ⟨g0, 0, none⟩) 4 4, .slice (some ⟨g1, 0, none⟩) 4 4, .slice (some ⟨g2, 0, none⟩) 3 3] 37)) := Qi (Qi (Below.refl _ _) _) _
 have HBB := Qf.mk b2
 have HT := Qf.mk (Qb H1T.out (.cells #[.slice (some ⟨g0, 0, none⟩) 4 4, .slice (some ⟨g1, 0, none⟩) 4 4, .slice (some ⟨g2, 0, none⟩) 3 3] 37))
 have HX := Qf.mk (blk_at0 (W := w1.alloc (.cells #[.int .i64 1, .int .i64 2, .int .i64 3, .bool false] 42)) (n := w1.heap.size + 1) (o := .cells #[.slice (some ⟨g0, 0, none⟩) 4 4, .slice (some ⟨g1, 0, none⟩) 4 4, .slice (some ⟨g2, 0, none⟩) 3 3] 37) (by simp))
 obtain ⟨gt, hgt⟩ : ∃ g, g = w1.heap.size := ⟨_, rfl⟩
 clear b2
 with_reducible refine (li_expand _ _ _ _ _ (Kd.Qr N1.out HBB.out) (Kd.Qr A1.out HBB.out) (Kd.Qr P1.out HBB.out) (li_turns HT.out)).mono ?_
 rintro e w2 ⟨Aa, ca, rfl, hb⟩
 have HB2 := Qf.mk hb
 clear hb
 have X2 := Qf.mk ((HB2.out.block _ (QR HX.out)).trans HX.out)
 have T2 := Qf.mk ((HB2.out.block _ (QR HT.out)).trans HT.out)
 have N2 := Qf.mk (Kd.Qr (Kd.Qr N1.out HBB.out) HB2.out)
 have A2 := Qf.mk (Kd.Qr (Kd.Qr A1.out HBB.out) HB2.out)
 have P2 := Qf.mk (Kd.Qr (Kd.Qr P1.out HBB.out) HB2.out)
 have HBW2 := Qf.mk (Qo HB1.out (Qo HBB.out HB2.out))
 have hlx := QR X2.out
 have x0 := (Qe X2.out 0).trans (rfl : _ = some (Value.slice (some ⟨g0, 0, none⟩) 4 4))
 have x1 := (Qe X2.out 1).trans (rfl : _ = some (Value.slice (some ⟨g1, 0, none⟩) 4 4))
 have x2 := (Qe X2.out 2).trans (rfl : _ = some (Value.slice (some ⟨g2, 0, none⟩) 3 3))
 go_wp2_with fail
 have E0 := Qf.mk (blk_at0 (W := w2) (n := w2.heap.size) (o := .cells #[.int .i64 11, .slice Aa 7 ca] 51) rfl)
 have X0 := Qf.mk (Qb X2.out (.cells #[.int .i64 11, .slice Aa 7 ca] 51))
 have T0 := Qf.mk (Qb T2.out (.cells #[.int .i64 11, .slice Aa 7 ca] 51))
 have N0 := Qf.mk (Kd.QG N2.out (.cells #[.int .i64 11, .slice Aa 7 ca] 51))
 have A0 := Qf.mk (Kd.QG A2.out (.cells #[.int .i64 11, .slice Aa 7 ca] 51))
 have P0 := Qf.mk (Kd.QG P2.out (.cells #[.int .i64 11, .slice Aa 7 ca] 51))
 have V0 := Qf.mk (Qi HBW2.out (.cells #[.int .i64 11, .slice Aa 7 ca] 51))
 clear x0 x1 x2 X2 T2 N2 A2 P2 HBW2 HX HT N1 A1 P1 HBB HB2 H1T
 obtain ⟨gx, hgx⟩ : ∃ g, g = w1.heap.size + 1 := ⟨_, rfl⟩
 obtain ⟨ge, hge⟩ : ∃ g, g = w2.heap.size := ⟨_, rfl⟩
 rw [← hgx] at X0 ⊢
 rw [← hge] at E0 ⊢
 clear hgx hge hlx
 generalize w2.alloc (.cells #[.int .i64 11, .slice Aa 7 ca] 51) = v0 at E0 X0 T0 N0 A0 P0 V0 ⊢
 with_reducible refine (li_a1 _ _ _ _ N0.out A0.out P0.out).mono ?_
 rintro e v1 ⟨rfl, hb⟩
 have V1 := Qf.mk (Qo V0.out hb)
 have X1 := Qf.mk ((hb.block _ (QR X0.out)).trans X0.out)
 have T1 := Qf.mk ((hb.block _ (QR T0.out)).trans T0.out)
 have E1 := Qf.mk ((hb.block _ (QR E0.out)).trans E0.out)
 have N1 := Qf.mk (Kd.Qr N0.out hb)
 have A1 := Qf.mk (Kd.Qr A0.out hb)
 have P1 := Qf.mk (Kd.Qr P0.out hb)
 clear hb X0 T0 E0 N0 A0 P0 V0
 have x0 := (Qe X1.out 0).trans (rfl : _ = some (Value.slice (some ⟨g0, 0, none⟩) 4 4))
 have x1 := (Qe X1.out 1).trans (rfl : _ = some (Value.slice (some ⟨g1, 0, none⟩) 4 4))
 have x2 := (Qe X1.out 2).trans (rfl : _ = some (Value.slice (some ⟨g2, 0, none⟩) 3 3))
 have y0 := (Qe E1.out 0).trans (rfl : _ = some (Value.int .i64 11))
 have y1 := (Qe E1.out 1).trans (rfl : _ = some (Value.slice Aa 7 ca))
 go_wp2_with fail
 with_reducible refine (li_a2 _ _ _ _ _ N1.out A1.out P1.out (li_turns T1.out)).mono ?_
 rintro e v2 ⟨rfl, hb⟩
 have V2 := Qf.mk (Qo V1.out hb)
 have X2 := Qf.mk ((hb.block _ (QR X1.out)).trans X1.out)
 have T2 := Qf.mk ((hb.block _ (QR T1.out)).trans T1.out)
 have E2 := Qf.mk ((hb.block _ (QR E1.out)).trans E1.out)
 have N2 := Qf.mk (Kd.Qr N1.out hb)
 have A2 := Qf.mk (Kd.Qr A1.out hb)
 have P2 := Qf.mk (Kd.Qr P1.out hb)
 clear hb X1 T1 E1 N1 A1 P1 V1
 clear x0 x1 x2 y0 y1
 have x0 := (Qe X2.out 0).trans (rfl : _ = some (Value.slice (some ⟨g0, 0, none⟩) 4 4))
 have x1 := (Qe X2.out 1).trans (rfl : _ = some (Value.slice (some ⟨g1, 0, none⟩) 4 4))
 have x2 := (Qe X2.out 2).trans (rfl : _ = some (Value.slice (some ⟨g2, 0, none⟩) 3 3))
 have y0 := (Qe E2.out 0).trans (rfl : _ = some (Value.int .i64 11))
 have y1 := (Qe E2.out 1).trans (rfl : _ = some (Value.slice Aa 7 ca))
 go_wp2_with fail
 with_reducible refine (li_a3 _ _ _ _ _ N2.out A2.out P2.out (li_turns T2.out)).mono ?_
 rintro e v3 ⟨rfl, hb⟩
 have V3 := Qf.mk (Qo V2.out hb)
 have X3 := Qf.mk ((hb.block _ (QR X2.out)).trans X2.out)
 have T3 := Qf.mk ((hb.block _ (QR T2.out)).trans T2.out)
 have E3 := Qf.mk ((hb.block _ (QR E2.out)).trans E2.out)
 have N3 := Qf.mk (Kd.Qr N2.out hb)
 have A3 := Qf.mk (Kd.Qr A2.out hb)
 have P3 := Qf.mk (Kd.Qr P2.out hb)
 clear hb X2 T2 E2 N2 A2 P2 V2
 clear x0 x1 x2 y0 y1
 have x0 := (Qe X3.out 0).trans (rfl : _ = some (Value.slice (some ⟨g0, 0, none⟩) 4 4))
 have x1 := (Qe X3.out 1).trans (rfl : _ = some (Value.slice (some ⟨g1, 0, none⟩) 4 4))
 have x2 := (Qe X3.out 2).trans (rfl : _ = some (Value.slice (some ⟨g2, 0, none⟩) 3 3))
 have y0 := (Qe E3.out 0).trans (rfl : _ = some (Value.int .i64 11))
 have y1 := (Qe E3.out 1).trans (rfl : _ = some (Value.slice Aa 7 ca))
 go_wp2_with fail
 with_reducible refine (li_source _ _ _ _ N3.out A3.out P3.out).mono ?_
 rintro e v4 ⟨rfl, hb⟩
 have V4 := Qf.mk (Qo V3.out hb)
 have X4 := Qf.mk ((hb.block _ (QR X3.out)).trans X3.out)
 have T4 := Qf.mk ((hb.block _ (QR T3.out)).trans T3.out)
 have E4 := Qf.mk ((hb.block _ (QR E3.out)).trans E3.out)
 have N4 := Qf.mk (Kd.Qr N3.out hb)
 have A4 := Qf.mk (Kd.Qr A3.out hb)
 have P4 := Qf.mk (Kd.Qr P3.out hb)
 clear hb X3 T3 E3 N3 A3 P3 V3
 clear x0 x1 x2 y0 y1
 have x0 := (Qe X4.out 0).trans (rfl : _ = some (Value.slice (some ⟨g0, 0, none⟩) 4 4))
 have x1 := (Qe X4.out 1).trans (rfl : _ = some (Value.slice (some ⟨g1, 0, none⟩) 4 4))
 have x2 := (Qe X4.out 2).trans (rfl : _ = some (Value.slice (some ⟨g2, 0, none⟩) 3 3))
 have y0 := (Qe E4.out 0).trans (rfl : _ = some (Value.int .i64 11))
 have y1 := (Qe E4.out 1).trans (rfl : _ = some (Value.slice Aa 7 ca))
 go_wp2_with fail
 with_reducible refine (li_target _ _ _ _ N4.out A4.out P4.out).mono ?_
 rintro e v5 ⟨rfl, hb⟩
 have V5 := Qf.mk (Qo V4.out hb)
 have X5 := Qf.mk ((hb.block _ (QR X4.out)).trans X4.out)
 have T5 := Qf.mk ((hb.block _ (QR T4.out)).trans T4.out)
 have E5 := Qf.mk ((hb.block _ (QR E4.out)).trans E4.out)
 have N5 := Qf.mk (Kd.Qr N4.out hb)
 have A5 := Qf.mk (Kd.Qr A4.out hb)
 have P5 := Qf.mk (Kd.Qr P4.out hb)
 clear hb X4 T4 E4 N4 A4 P4 V4
 clear x0 x1 x2 y0 y1
 have x0 := (Qe X5.out 0).trans (rfl : _ = some (Value.slice (some ⟨g0, 0, none⟩) 4 4))
 have x1 := (Qe X5.out 1).trans (rfl : _ = some (Value.slice (some ⟨g1, 0, none⟩) 4 4))
 have x2 := (Qe X5.out 2).trans (rfl : _ = some (Value.slice (some ⟨g2, 0, none⟩) 3 3))
 have y0 := (Qe E5.out 0).trans (rfl : _ = some (Value.int .i64 11))
 have y1 := (Qe E5.out 1).trans (rfl : _ = some (Value.slice Aa 7 ca))
 go_wp2_with fail
 with_reducible refine (li_of _).mono ?_
 rintro e v6 ⟨Af, cf, rfl, hb⟩
 have V6 := Qf.mk (Qo V5.out hb)
 clear hb
 go_wp2
 go_ret
 exact ⟨rfl, V6.out⟩

def Q6.f : Option (Bool) := some true
theorem Q6.calls (r : Bool) (w : World) (h : Q6.f = some r) :
  Calls Try.prog 9 #[] w fun e w' => e = .returned (.bool r) ∧ Below w.heap.size w w' := by
 obtain rfl := Option.some.inj h
 exact lives_any w

end Go.Proofs.Ytbkfjmpnbalkaaa.QTurnsPieces
