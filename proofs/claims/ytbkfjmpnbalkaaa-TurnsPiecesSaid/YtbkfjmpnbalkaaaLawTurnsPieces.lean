/- The row of the law mapmaker/mapmakerlaw47.TurnsPieces: from its contract and its pure law. No condition. -/
import Derived.Test.YtbkfjmpnbalkaaaRows
import Derived.Test.YtbkfjmpnbalkaaaQTurnsPiecesx13
import Derived.Test.YtbkfjmpnbalkaaaPureTurnsPieces
import Derived.WalkKit
import Derived.ProofKit
import Derived.OpenShut
import Derived.ShutString
import Derived.ChangeOld
import Derived.Below
import Derived.SizedLaws
import Derived.Lib.SmallJoins
namespace Go.Proofs.Ytbkfjmpnbalkaaa.turnsPieces
open Go.ChangeShapes Go.WideShapes Go.ChangeAt Go.RowKit Go.Proofs.YtbkfjmpnbalkaaaW.PrintWords Go.Proofs.Ytbkfjmpnbalkaaa.QTurnsPieces
open Go.ChangeMaps (open_string shut_string)
set_option linter.unusedVariables false
/-- Whatever can be read at type t is a value of the kind k, and the value is of G. -/
def Opens {α : Type} (P : Program) (t : TypeId) (k : Kd α) (G : α → Prop) : Prop :=
  ∀ {H : Type} (enc : TypeId × Value → H) (w : World) (base : Nat) (spare : Nat → Bool) (held : Bool) (fuel : Nat) (cs : List Value) (x : DataW H × List MemPlace),
    DataW.trod enc P w base spare held fuel t cs = some x → ∃ y, k.K w y cs ∧ G y
theorem list_choose {α : Type} {p : Nat → α → Prop} : ∀ n, (∀ i, i < n → ∃ x, p i x) → ∃ l : List α, l.length = n ∧ ∀ i x, l[i]? = some x → p i x
  | 0, _ => ⟨[], rfl, fun i x h => by simp at h⟩
  | n + 1, h => by
    obtain ⟨l, hl, hp⟩ := list_choose n (fun i hi => h i (by omega))
    obtain ⟨x, hx⟩ := h n (by omega)
    refine ⟨l ++ [x], by simp [hl], fun i y hy => ?_⟩
    rcases Nat.lt_trichotomy i n with h1 | h1 | h1
    · rw [List.getElem?_append_left (by omega)] at hy
      exact hp i y hy
    · subst h1
      rw [List.getElem?_append_right (by omega), hl, Nat.sub_self] at hy
      have : x = y := by simpa using hy
      exact this ▸ hx
    · rw [List.getElem?_eq_none (by simp [hl]; omega)] at hy
      cases hy
theorem opens_int {P : Program} {t : TypeId} {k : IntKind} (h : P.underlying t = some (.int k)) : Opens P t (Kd.int k) (fun n => (Lit.int k n).wf = true) := by
  intro H enc w base spare held fuel cs x hx
  obtain ⟨n, rfl, _, hw⟩ := DataW.trod_int h hx
  exact ⟨n, rfl, hw⟩
theorem opens_bool {P : Program} {t : TypeId} (h : P.underlying t = some .bool) : Opens P t Kd.bool (fun _ => True) := by
  intro H enc w base spare held fuel cs x hx
  obtain ⟨n, rfl, _⟩ := DataW.trod_bool h hx
  exact ⟨n, rfl, trivial⟩
theorem opens_string {P : Program} {t : TypeId} (h : P.underlying t = some .string) : Opens P t Kd.string (fun s => s.size ≤ maxLen) := by
  intro H enc w base spare held fuel cs x hx
  obtain ⟨n, rfl, _, hs⟩ := DataW.trod_string h hx
  exact ⟨n, rfl, hs⟩
theorem opens_slice {P : Program} {t e : TypeId} {α : Type} {k : Kd α} {G : α → Prop} (ht : P.underlying t = some (.slice e)) (hk : Opens P e k G) (hC : P.cellsOf e = k.sz) : Opens P t (Kd.slice e k) (fun xs => ∀ x ∈ xs, G x) := by
  intro H enc w base spare held fuel cs x hx
  rcases DataW.trod_slice ht hx with ⟨rfl, _⟩ | ⟨a, len, cap, elems, rest, n, _, rfl, _, hb, hl, hm, hel, hcell, _⟩
  · exact ⟨[], ⟨none, 0, rfl, Nat.le_refl _, Kd.C_nil _ _⟩, fun x h => by cases h⟩
  · obtain ⟨xs, hxl, hxs⟩ := list_choose (p := fun i y => ∃ c, w.cells? base (a.add (i * k.sz)) k.sz = some c ∧ k.K w y c ∧ G y) len (fun i hi => by
      have h1 := hcell i hi
      rw [List.getElem?_eq_getElem (by omega), hC] at h1
      obtain ⟨c, hc, ht⟩ := Option.bind_eq_some_iff.1 h1
      obtain ⟨y, hy, hg⟩ := hk enc w base spare held n c _ ht
      exact ⟨y, c, hc, hy, hg⟩)
    refine ⟨xs, ⟨some a, cap, by rw [hxl], by omega, rfl, by unfold maxLen at hm; omega, fun _ => ⟨a, rfl, fun j p hj => ?_⟩⟩, fun x hx => ?_⟩
    · obtain ⟨c, hc, hK, _⟩ := hxs j p hj
      obtain ⟨_, h1, h2⟩ := World.cells?_some hc
      refine ⟨c, k.K_len hK, hK, fun i u hu => ?_⟩
      have hi : i < k.sz := by
        rw [← h1]
        exact (List.getElem?_eq_some_iff.1 hu).1
      rw [← add_add, h2 i hi]
      exact hu
    · obtain ⟨j, hj, rfl⟩ := List.mem_iff_getElem.1 hx
      obtain ⟨_, _, _, hg⟩ := hxs j _ (List.getElem?_eq_getElem hj)
      exact hg
/-- The fields fs, of which the first lies at off, read as k. -/
def OpensFrom {α : Type} (P : Program) (fs : List Field) (off : Nat) (k : Kd α) (G : α → Prop) : Prop :=
  ∀ {H : Type} (enc : TypeId × Value → H) (w : World) (base : Nat) (spare : Nat → Bool) (held : Bool) (n : Nat) (cs : List Value),
    (∀ f ∈ fs, ∃ y, DataW.trod enc P w base spare held n f.type ((cs.drop f.offset).take (P.cellsOf f.type)) = some y) → (cs.drop off).length = k.sz → ∃ y, k.K w y (cs.drop off) ∧ G y
theorem opens_last {P : Program} {f : Field} {off : Nat} {α : Type} {k : Kd α} {G : α → Prop} (hk : Opens P f.type k G) (ho : f.offset = off) (hC : P.cellsOf f.type = k.sz) : OpensFrom P [f] off k G := by
  intro H enc w base spare held n cs h hl
  obtain ⟨y, hy⟩ := h f (by simp)
  rw [ho, hC, List.take_of_length_le (by omega)] at hy
  exact hk enc w base spare held n _ y hy
theorem opens_more {P : Program} {f : Field} {fs : List Field} {off : Nat} {α β : Type} {a : Kd α} {b : Kd β} {G : α → Prop} {G' : β → Prop} (hk : Opens P f.type a G) (ho : f.offset = off) (hC : P.cellsOf f.type = a.sz) (h : OpensFrom P fs (off + a.sz) b G') :
    OpensFrom P (f :: fs) off (Kd.pair a b) (fun x => G x.1 ∧ G' x.2) := by
  intro H enc w base spare held n cs hf hl
  have hl' : (cs.drop off).length = a.sz + b.sz := hl
  obtain ⟨y, hy⟩ := hf f (by simp)
  rw [ho, hC] at hy
  obtain ⟨u, hu, hg⟩ := hk enc w base spare held n _ y hy
  obtain ⟨v, hv, hg'⟩ := h enc w base spare held n cs (fun g hg => hf g (by simp [hg])) (by rw [List.length_drop] at hl' ⊢; omega)
  refine ⟨(u, v), ⟨_, _, ?_, hu, hv⟩, hg, hg'⟩
  rw [← List.drop_drop]
  exact (List.take_append_drop _ _).symm
theorem opens_struct {P : Program} {t : TypeId} {fs : Array Field} {α β : Type} {k : Kd α} {G : α → Prop} (f : β → α) (g : α → β) (hfg : ∀ y, f (g y) = y) (ht : P.underlying t = some (.struct fs)) (h : OpensFrom P fs.toList 0 k G) (hC : P.cellsOf t = k.sz) : Opens P t (Kd.iso k f) (fun x => G (f x)) := by
  intro H enc w base spare held fuel cs x hx
  obtain ⟨xs, n, _, _, hl, hlen, hf⟩ := DataW.trod_struct ht hx
  obtain ⟨y, hy, hg⟩ := h enc w base spare held n cs (fun q hq => by
    obtain ⟨i, hi, rfl⟩ := List.mem_iff_getElem.1 hq
    have hi' : i < fs.size := by simpa using hi
    have := hf i (fs.toList[i]) (by simp [hi'])
    rw [List.getElem?_eq_getElem (by omega)] at this
    exact ⟨_, this⟩) (by rw [List.drop_zero]; omega)
  rw [List.drop_zero] at hy
  exact ⟨g y, by show k.K w (f (g y)) cs; rw [hfg]; exact hy, by show G (f (g y)); rw [hfg]; exact hg⟩
theorem opens_weak {α : Type} {P : Program} {t : TypeId} {k : Kd α} {G : α → Prop} (h : Opens P t k G) : Opens P t k (fun _ => True) := by
  intro H enc w base spare held fuel cs x hx
  obtain ⟨y, hy, _⟩ := h enc w base spare held fuel cs x hx
  exact ⟨y, hy, trivial⟩
theorem o3 : Opens Try.prog 3 (Kd.int .i64) (fun _ => True) := opens_weak (opens_int Try.underlying3)
theorem o33 : Opens Try.prog 33 (Kd.slice 3 (Kd.int .i64)) (fun _ => True) := opens_weak (opens_slice Try.underlying33 o3 (by kernel_rfl))
theorem o158 : Opens Try.prog 158 k158 (fun _ => True) := opens_weak (opens_struct (fun x : S158 => (x.f0, x.f1)) (fun y => ⟨y.1, y.2⟩) (fun _ => rfl) Try.underlying158 (opens_more o3 rfl (by kernel_rfl) (opens_last o3 rfl (by kernel_rfl))) (by kernel_rfl))
theorem o34 : Opens Try.prog 34 (Kd.slice 158 k158) (fun _ => True) := opens_weak (opens_slice Try.underlying34 o158 (by kernel_rfl))
theorem o120 : Opens Try.prog 120 k120 (fun _ => True) := opens_weak (opens_struct (fun x : S120 => (x.f0, x.f1)) (fun y => ⟨y.1, y.2⟩) (fun _ => rfl) Try.underlying120 (opens_more o3 rfl (by kernel_rfl) (opens_last o3 rfl (by kernel_rfl))) (by kernel_rfl))
theorem o54 : Opens Try.prog 54 (Kd.slice 120 k120) (fun _ => True) := opens_weak (opens_slice Try.underlying54 o120 (by kernel_rfl))
theorem o56 : Opens Try.prog 56 k56 (fun _ => True) := opens_weak (opens_struct (fun x : S56 => (x.f0, x.f1, x.f2)) (fun y => ⟨y.1, y.2.1, y.2.2⟩) (fun _ => rfl) Try.underlying56 (opens_more o54 rfl (by kernel_rfl) (opens_more o3 rfl (by kernel_rfl) (opens_last o3 rfl (by kernel_rfl)))) (by kernel_rfl))
theorem o58 : Opens Try.prog 58 k58 (fun _ => True) := opens_weak (opens_struct (fun x : S58 => (x.f0, x.f1, x.f2, x.f3, x.f4, x.f5)) (fun y => ⟨y.1, y.2.1, y.2.2.1, y.2.2.2.1, y.2.2.2.2.1, y.2.2.2.2.2⟩) (fun _ => rfl) Try.underlying58 (opens_more o3 rfl (by kernel_rfl) (opens_more o3 rfl (by kernel_rfl) (opens_more o3 rfl (by kernel_rfl) (opens_more o3 rfl (by kernel_rfl) (opens_more o3 rfl (by kernel_rfl) (opens_last o56 rfl (by kernel_rfl))))))) (by kernel_rfl))
theorem o35 : Opens Try.prog 35 (Kd.slice 58 k58) (fun _ => True) := opens_weak (opens_slice Try.underlying35 o58 (by kernel_rfl))
theorem o4 : Opens Try.prog 4 Kd.bool (fun _ => True) := opens_weak (opens_bool Try.underlying4)
theorem o42 : Opens Try.prog 42 k42 (fun _ => True) := opens_weak (opens_struct (fun x : S42 => (x.f0, x.f1, x.f2, x.f3)) (fun y => ⟨y.1, y.2.1, y.2.2.1, y.2.2.2⟩) (fun _ => rfl) Try.underlying42 (opens_more o3 rfl (by kernel_rfl) (opens_more o3 rfl (by kernel_rfl) (opens_more o3 rfl (by kernel_rfl) (opens_last o4 rfl (by kernel_rfl))))) (by kernel_rfl))
theorem o30 : Opens Try.prog 30 (Kd.slice 42 k42) (fun _ => True) := opens_weak (opens_slice Try.underlying30 o42 (by kernel_rfl))
theorem own : ownKnob Try.prog.godebug = none := by kernel_rfl
theorem laidOut : laidOutB Try.prog = true := by kernel_rfl
set_option maxRecDepth 100000 in
theorem lifted (os : Os) (started : os.Started) (H : Type) (enc : TypeId × Value → H) :
    ReturnsInHanded {} Try.checked os 6 .any (Rows.turnsPiecesSpec.pre6 enc Try.prog Try.f6 Rows.turnsPiecesRow.domain false) (Rows.turnsPiecesSpec.post enc Try.prog Try.f6 false true false false) := by
  refine returnsInHanded_of_change_sized (C := Try.checked) own started (by kernel_rfl) Try.func6
    (ChangeSpec.witness6 (enc := enc) (C := Try.checked) false ⟨#[], #[.agg #[.slice none 0 0, .slice none 0 0, .slice none 0 0], .slice none 0 0, .slice none 0 0], []⟩ 8 (by kernel_rfl) (by kernel_rfl) (by kernel_rfl) (by kernel_rfl)) ?_
  intro W base args ds gs before hval0 hW hcnd hsz0 _
  have hval : ∀ (j : Nat) t v, Try.f6.params[j]? = some t → args[j]? = some v → Value.okWide Try.prog W .any base t v := hval0
  have hW' := hW
  obtain ⟨p, q, hA0, hV, rfl, hfz, hnd⟩ := hW
  have hA : DataW.TrodAll enc Try.prog W 0 (fun _ => true) true Try.f6.params.toList args.toList ds p := hA0
  rw [Try.params6] at hA hval
  obtain ⟨v0, vs0, d0, ds0, p0, q0, hargs, rfl, rfl, h0, r0⟩ := trodAll_cons hA
  obtain ⟨v1, vs1, d1, ds1, p1, q1, rfl, rfl, rfl, h1, r1⟩ := trodAll_cons r0
  obtain ⟨v2, vs2, d2, ds2, p2, q2, rfl, rfl, rfl, h2, r2⟩ := trodAll_cons r1
  obtain ⟨rfl, rfl, rfl⟩ := trodAll_nil r2
  obtain rfl : args = #[v0, v1, v2] := by cases args; simp_all
  obtain ⟨rfl, rfl⟩ := trodVars_none hV
  have k0 := h0
  have lt0 : ∀ x ∈ p0, x.block < W.heap.size := by obtain ⟨m, hm⟩ := k0; exact DataW.trod_lt m _ _ _ hm
  obtain ⟨v0_0, v0_1, v0_2, y0_0, y0_1, y0_2, m0, rfl, -, -, hy0_0, hy0_1, hy0_2⟩ := Go.Joins.open_agg3 Try.underlying37 (by kernel_rfl) (by kernel_rfl) (hval 0 37 v0 rfl rfl) h0
  obtain ⟨z0_0, ⟨A0_0, c0_0, hc0_0, hl0_0, hC0_0⟩, G0_0⟩ := o33 enc W 0 _ _ _ _ _ hy0_0
  obtain rfl := (List.cons.inj hc0_0).1
  obtain ⟨z0_1, ⟨A0_1, c0_1, hc0_1, hl0_1, hC0_1⟩, G0_1⟩ := o34 enc W 0 _ _ _ _ _ hy0_1
  obtain rfl := (List.cons.inj hc0_1).1
  obtain ⟨z0_2, ⟨A0_2, c0_2, hc0_2, hl0_2, hC0_2⟩, G0_2⟩ := o35 enc W 0 _ _ _ _ _ hy0_2
  obtain rfl := (List.cons.inj hc0_2).1
  have k1 := h1
  have lt1 : ∀ x ∈ p1, x.block < W.heap.size := by obtain ⟨m, hm⟩ := k1; exact DataW.trod_lt m _ _ _ hm
  obtain ⟨a1, len1, cap1, rfl⟩ := okWide_slice Try.underlying33 (hval 1 33 v1 rfl rfl)
  obtain ⟨fu1, hf1⟩ := h1
  obtain ⟨z1, ⟨A1, c1, hc1, hl1, hC1⟩, G1⟩ := o33 enc W 0 _ _ _ _ _ hf1
  obtain ⟨rfl, rfl, rfl⟩ := Value.slice.inj (List.cons.inj hc1).1
  have k2 := h2
  have lt2 : ∀ x ∈ p2, x.block < W.heap.size := by obtain ⟨m, hm⟩ := k2; exact DataW.trod_lt m _ _ _ hm
  obtain ⟨a2, len2, cap2, rfl⟩ := okWide_slice Try.underlying30 (hval 2 30 v2 rfl rfl)
  obtain ⟨fu2, hf2⟩ := h2
  obtain ⟨z2, ⟨A2, c2, hc2, hl2, hC2⟩, G2⟩ := o30 enc W 0 _ _ _ _ _ hf2
  obtain ⟨rfl, rfl, rfl⟩ := Value.slice.inj (List.cons.inj hc2).1
  clear hA0 hval0 hsz0
  obtain ⟨k, hk⟩ := Pure.TurnsPieces z0_0 z0_1 z0_2 z1 z2
  refine (QB.calls k A0_0 c0_0 z0_0 A0_1 c0_1 z0_1 A0_2 c0_2 z0_2 a1 cap1 z1 a2 cap2 z2 true W hC0_0 hl0_0 hC0_1 hl0_1 hC0_2 hl0_2 hC1 hl1 hC2 hl2 hk).mono fun e W' ⟨he, bel⟩ => ?_
  subst he
  exact ⟨_, rfl, _, _, _, [], _, [], hW', trodAll_mk1 (shut_bool Try.underlying4 _), (trodAll_cons_mk (Below.trod laidOut (by kernel_rfl) (of_decide_eq_true (by kernel_rfl)) k0 bel lt0) (trodAll_cons_mk (Below.trod laidOut (by kernel_rfl) (of_decide_eq_true (by kernel_rfl)) k1 bel lt1) (trodAll_cons_mk (Below.trod laidOut (by kernel_rfl) (of_decide_eq_true (by kernel_rfl)) k2 bel lt2) trodAll_mk0))), rfl, bel.frame _, fun h => by cases h⟩
theorem over : Rows.turnsPiecesRow.holds Try.pinned (OpenSpec.ofChange Rows.turnsPiecesSpec) :=
  OpenClaim.holds_of_wide 6 Try.f6 rfl rfl rfl rfl rfl rfl rfl ⟨rfl, rfl, rfl, rfl, rfl⟩ rfl rfl rfl rfl rfl (by kernel_rfl) Try.func6 (by kernel_rfl)
    (of_decide_eq_true (by kernel_rfl)) (by unfold Func.isWrapper; first | (rw [if_pos (by decide +kernel)]; kernel_rfl) | (rw [if_neg (by decide +kernel)]; exact ⟨rfl, rfl⟩))
    (fun os started H enc _ => lifted os started H enc)
theorem proved : Rows.TurnsPiecesSaid := over
end Go.Proofs.Ytbkfjmpnbalkaaa.turnsPieces
namespace Go.Proofs.Ytbkfjmpnbalkaaa
/-- The row, under a short name, for the claim. -/
theorem turnsPieces_holds : Rows.TurnsPiecesSaid := turnsPieces.proved
#print axioms turnsPieces_holds
end Go.Proofs.Ytbkfjmpnbalkaaa
