/- A drawn region of the abstract machine is the model's. No condition. -/
import Derived.Test.YthnmiojncfhhmaaAm15
set_option linter.unusedVariables false
set_option linter.unusedSimpArgs false
set_option linter.unusedSectionVars false
namespace Go.Am
open Go.RowKit (Below)
theorem HRel.drew {base : Nat} {φ : Ren} {G : Nat → Option Blk} {w : World} (h : HRel base φ G w) : HRel base φ G { w with drawn := w.drawn + 1 } :=
  ⟨h.bs, fun b x hb => by
    obtain ⟨B, O, K, h1, h2⟩ := h.live b x hb
    exact ⟨B, O, K, h1, h2.frame rfl⟩, h.apart⟩
theorem getD_of_not {l : Array Bool} {i n : Nat} (hs : l.size = n) (hi : i < n) : l.getD i true = false ↔ ¬ l.getD i false = true := by
  have hlt : i < l.size := by omega
  simp [Array.getElem?_eq_getElem hlt]
section
variable {call : CallF} {P : Program} {ops : Array Oper} {Ts : Nat → Nat → Value} {ss : Nat → St} {st : Nat → Step} {hs : Nat → List Step} (C : Canon call P ops Ts ss st hs)
  {base : Nat} {φ0 : Ren} {a0 : Act} {w0 : World} {Q : Exit → Act → World → Prop}
include C
theorem Canon.any (hcall : CallOK P call) (hos : ∀ o ∈ ops.toList, okOper o = true ∧ ∀ d, o.dst = some d → d < a0.tmps.size) (hfr : Fresh φ0 (ss 0).next (ss ops.size).next)
    (hQ : ∀ b' w', Post base φ0 (ss 0) a0 w0 (Ts ops.size) (ss ops.size) b' w' → Q .normal b' w') :
    ∀ (f : Nat) (listed : Array Bool) (S : Nat → Prop) (l : List Nat) (φ : Ren) (b : Act) (w1 : World), Sofar ops S → listed.size = ops.size → (∀ i, i < ops.size → (listed.getD i false = true ↔ S i)) → l.length ≤ f → (∀ i, i < ops.size → ¬ S i → i ∈ l) →
      HRel base φ (memOf ops ss S) w1 → TRel φ (tmpOf ops Ts st S) b → b.tmps.size = a0.tmps.size → b.defers = a0.defers → (∀ c x, φ0 c = some x → φ c = some x) → (∀ c, φ c ≠ φ0 c → ∃ i, S i ∧ (ss i).next ≤ c ∧ c < (ss (i + 1)).next) → Below base w0 w1 →
      wpAny P .any ops Q f listed b w1 := by
  have fin : ∀ (S : Nat → Prop) (φ : Ren) (b : Act) (w1 : World), (∀ i, i < ops.size → S i) → (∀ i, S i → i < ops.size) → HRel base φ (memOf ops ss S) w1 → TRel φ (tmpOf ops Ts st S) b → b.tmps.size = a0.tmps.size → b.defers = a0.defers → (∀ c x, φ0 c = some x → φ c = some x) → (∀ c, φ c ≠ φ0 c → ∃ i, S i ∧ (ss i).next ≤ c ∧ c < (ss (i + 1)).next) → Below base w0 w1 → Q .normal b w1 := by
    intro S φ b w1 hall hlt hH hT h1 h2 h3 h4 h5
    rw [C.all_mem hall] at hH
    rw [C.all_tmp hall] at hT
    refine hQ b w1 ⟨φ, ⟨h3, fun c hc => ?_⟩, hH, h5, hT, h1, h2⟩
    obtain ⟨i, q1, q2, q3⟩ := h4 c hc
    have := hlt i q1
    have := C.nextle (show 0 ≤ i by omega) (by omega)
    have := C.nextle (show i + 1 ≤ ops.size by omega) (Nat.le_refl _)
    omega
  intro f
  induction f with
  | zero =>
    intro listed S l φ b w1 hS hsz hlist hl hcov hH hT h1 h2 h3 h4 h5
    have hall : ∀ i, i < ops.size → S i := fun i hi => Classical.byContradiction fun hn => by
      have := hcov i hi hn
      cases l with
      | nil => cases this
      | cons _ _ => simp at hl
    refine ⟨?_, fin S φ b w1 hall hS.lt hH hT h1 h2 h3 h4 h5⟩
    refine List.eq_nil_iff_forall_not_mem.2 fun i hi => ?_
    obtain ⟨q1, o, q2, _⟩ := mem_ready.1 hi
    have hlt : i < ops.size := (Array.getElem?_eq_some_iff.1 q2).1
    exact (getD_of_not hsz hlt).1 q1 ((hlist i hlt).2 (hall i hlt))
  | succ f ih =>
    intro listed S l φ b w1 hS hsz hlist hl hcov hH hT h1 h2 h3 h4 h5
    refine ⟨fun hnil => ?_, fun k hk => ?_⟩
    · have hall : ∀ i, i < ops.size → S i := by
        intro i
        induction i using Nat.strongRecOn with
        | _ i ihi =>
          intro hi
          refine Classical.byContradiction fun hn => ?_
          have hmem : i ∈ Region.ready .any ops listed := mem_ready.2 ⟨(getD_of_not hsz hi).2 fun h => hn ((hlist i hi).1 h), ops[i], by simp, fun e he hb => ?_⟩
          · rw [hnil] at hmem
            cases hmem
          · have hlt := C.on_lt (k := i) (o := ops[i]) (by simp) he hb
            exact (hlist e.on (by omega)).2 (ihi e.on hlt (by omega))
      exact fin S φ b w1 hall hS.lt hH hT h1 h2 h3 h4 h5
    · obtain ⟨q1, o, ho, q3⟩ := mem_ready.1 hk
      have hkl : k < ops.size := (Array.getElem?_eq_some_iff.1 ho).1
      have hkS : ¬ S k := fun h => (getD_of_not hsz hkl).1 q1 ((hlist k hkl).2 h)
      have hanc : ∀ j, ((Region.before ops).getD k 0).testBit j = true → S j := fun j hj => by
        obtain ⟨o', ho', e, he, hb, hor⟩ := before_spec hkl hj
        rw [ho] at ho'
        cases ho'
        have hlt := C.on_lt ho he hb
        have hSe : S e.on := (hlist e.on (by omega)).1 (q3 e he hb)
        rcases hor with rfl | hor
        · exact hSe
        · exact hS.anc _ hSe _ hor
      obtain ⟨s₂, s₂', e1, e2, e3, e4, e5, e6⟩ := C.step_at hS hkl hkS hanc ho
      have hfresh : Fresh φ s₂.next s₂'.next := fun c hc hc' => by
        rw [e2] at hc
        rw [e4] at hc'
        have hk0 := C.nextle (show 0 ≤ k by omega) (by omega)
        have hkn := C.nextle (show k + 1 ≤ ops.size by omega) (Nat.le_refl _)
        have h0 : φ0 c = none := hfr c (by omega) (by omega)
        refine Classical.byContradiction fun hne => ?_
        obtain ⟨i, r1, r2, r3⟩ := h4 c (by rw [h0]; exact hne)
        have hil := hS.lt i r1
        have hik : i ≠ k := fun e => hkS (e ▸ r1)
        rcases Nat.lt_or_ge i k with hlt | hlt
        · have := C.nextle (show i + 1 ≤ k by omega) (by omega)
          omega
        · have := C.nextle (show k + 1 ≤ i by omega) (by omega)
          omega
      have hoo := hos o (by
        have := List.mem_of_getElem? (l := ops.toList) (i := k) (a := o) (by simpa using ho)
        exact this)
      have hst := step_sound (ops := ops) (Q := Q) (K := wpAny P .any ops Q f (listed.setIfInBounds k true)) hcall e5 hT hoo.1 (by rw [e1]; exact hH) e6 hfresh fun φ' v' w' x1 x2 x3 x4 => by
        rw [e2, e4] at x1
        rw [e3] at x2
        have hmem : k ∈ l := hcov k hkl hkS
        refine ih (listed.setIfInBounds k true) (fun i => S i ∨ i = k) (l.erase k) φ' (b.put o.dst v') w' ⟨fun i hi j hj => ?_, fun i hi => ?_⟩ (by simpa using hsz) (fun i hi => ?_) ?_ (fun i hi hn => ?_) x2 ?_ (put_size.trans h1) (put_defers.trans h2) (fun c x hc => x1.1 c x (h3 c x hc)) (fun c hc => ?_) (h5.trans x3)
        · rcases hi with hi | rfl
          · exact .inl (hS.anc i hi j hj)
          · exact .inl (hanc j hj)
        · rcases hi with hi | rfl
          · exact hS.lt i hi
          · exact hkl
        · by_cases hik : i = k
          · subst hik
            simp [hsz, hkl]
          · rw [getD_set_ne false (Ne.symm hik), hlist i hi]
            simp [hik]
        · rw [List.length_erase_of_mem hmem]
          omega
        · have hn1 : ¬ S i := fun h => hn (.inl h)
          have hn2 : i ≠ k := fun h => hn (.inr h)
          exact (List.mem_erase_of_ne hn2).2 (hcov i hi hn1)
        · rw [C.tmp_next hS hkl hkS hanc ho]
          exact put_rel (TRel.mono x1.1 hT) (fun d hd => by rw [h1]; exact hoo.2 d hd) x4
        · by_cases hcc : φ' c = φ c
          · obtain ⟨i, r1, r2⟩ := h4 c (by rw [← hcc]; exact hc)
            exact ⟨i, .inl r1, r2⟩
          · exact ⟨k, .inr rfl, x1.2 c hcc⟩
      unfold wpOp
      simp only [ho]
      split
      · rename_i hw'
        rw [if_pos hw'] at hst
        exact .inl hst
      · rename_i hw'
        rw [if_neg hw'] at hst
        exact hst
end
theorem drawOps_sound {call : CallF} {P : Program} {ops : Array Oper} {base id : Nat} {φ : Ren} {a : Act} {w : World} {s s' : St} {T T' : Nat → Value} {Q : Exit → Act → World → Prop}
    (hcall : CallOK P call) (hg : GoodCall call) (hm : P.follows .mixedOrders = true) (hos : ∀ o ∈ ops.toList, okOper o = true ∧ ∀ d, o.dst = some d → d < a.tmps.size) (hok : okDraw ops = true)
    (h : drawOps call P ops T s = some (T', s')) (hclr : Clear s s'.next) (hT : TRel φ T a) (hH : HRel base φ s.get w) (hfr : Fresh φ s.next s'.next)
    (hQ : ∀ b' w', Post base φ s a w T' s' b' w' → Q .normal b' w') : (Code.region id ops true).wp P Q a w := by
  unfold drawOps at h
  obtain ⟨⟨⟨h', T1⟩, s1⟩, h1, h2⟩ := Option.bind_eq_some_iff.1 h
  split at h2
  case isFalse => cases h2
  rename_i hcomp
  cases h2
  obtain ⟨Ts, ss, st, hs, c, e1, e2, e3, e4, e5, e6⟩ := chain_of _ _ _ _ _ _ _ _ h1
  simp only [Nat.zero_add, Array.length_toList] at e4 e5 e6
  subst e1 e2 e4 e5 e6
  have C : Canon call P ops Ts ss st hs := ⟨hg, hok, hcomp, e3, fun i hi => by
    obtain ⟨o, q1, q2, q3, q4⟩ := c.step i (by simpa using hi)
    simp only [Nat.zero_add] at q2 q3 q4
    exact ⟨o, by simpa using q1, q2, q3, q4⟩, hclr⟩
  refine wp_region_any hm ?_
  have hmem0 : memOf ops ss (fun _ => False) = (ss 0).get := funext fun b => by
    unfold memOf
    rw [lastVal_cut (k := 0) (Nat.zero_le _) fun i _ _ h => h.1]
    rfl
  have htmp0 : tmpOf ops Ts st (fun _ => False) = Ts 0 := funext fun t => by
    unfold tmpOf
    rw [lastVal_cut (k := 0) (Nat.zero_le _) fun i _ _ h => h.1]
    rfl
  refine C.any (φ0 := φ) (a0 := a) (w0 := w) hcall hos hfr hQ ops.size _ (fun _ => False) (List.range ops.size) φ a _ ⟨fun _ h => h.elim, fun _ h => h.elim⟩ (by simp) (fun i hi => by simp [hi]) (by simp) (fun i hi _ => List.mem_range.2 hi) (by rw [hmem0]; exact hH.drew) (by rw [htmp0]; exact hT) rfl rfl (fun _ _ h => h) (fun c hc => absurd rfl hc) (Below.refl _ _).drew
end Go.Am
