/- The abstract machine and the world: the relation, and what reading, writing and making cells does. No condition. -/
import Derived.Test.YthnmiojncfhhmaaAm1
import Derived.Laws.Cells
import Derived.Laws.CopyRow
import Derived.Laws.AppendOwn
import Derived.Below
set_option linter.unusedVariables false
set_option linter.unusedSimpArgs false
set_option linter.unusedSectionVars false
namespace Go.Am
open Go.RowKit (Below)
/-! ### Lists of related values -/
theorem RelL.length {φ : Ren} : ∀ {l l' : List Value}, RelL φ l l' → l.length = l'.length
  | _, _, .nil => rfl
  | _, _, .cons _ t => by rw [List.length_cons, List.length_cons, t.length]
theorem RelL.get {φ : Ren} : ∀ {l l' : List Value} (_ : RelL φ l l') (i : Nat) (v : Value), l[i]? = some v → ∃ v', l'[i]? = some v' ∧ Rel φ v v'
  | _, _, .nil, i, v, h => by simp at h
  | _, _, .cons hv t, 0, v, h => by
    simp at h
    subst h
    exact ⟨_, rfl, hv⟩
  | _, _, .cons hv t, i + 1, v, h => by
    rw [List.getElem?_cons_succ] at h
    obtain ⟨v', h1, h2⟩ := t.get i v h
    exact ⟨v', by rw [List.getElem?_cons_succ]; exact h1, h2⟩
theorem RelL.of_get {φ : Ren} : ∀ {l l' : List Value}, l.length = l'.length → (∀ (i : Nat) (v : Value), l[i]? = some v → ∃ v', l'[i]? = some v' ∧ Rel φ v v') → RelL φ l l'
  | [], [], _, _ => .nil
  | v :: l, v' :: l', hl, h => by
    obtain ⟨u, h1, h2⟩ := h 0 v rfl
    simp at h1
    subst h1
    exact .cons h2 (RelL.of_get (by simpa using hl) fun i u hu => by
      obtain ⟨u', h3, h4⟩ := h (i + 1) u (by rw [List.getElem?_cons_succ]; exact hu)
      rw [List.getElem?_cons_succ] at h3
      exact ⟨u', h3, h4⟩)
  | [], _ :: _, h, _ => by simp at h
  | _ :: _, [], h, _ => by simp at h
theorem RelL.append {φ : Ren} : ∀ {l l' m m' : List Value}, RelL φ l l' → RelL φ m m' → RelL φ (l ++ m) (l' ++ m')
  | _, _, _, _, .nil, h => h
  | _, _, _, _, .cons v t, h => .cons v (t.append h)
theorem RelL.take {φ : Ren} : ∀ {l l' : List Value}, RelL φ l l' → ∀ n, RelL φ (l.take n) (l'.take n)
  | _, _, .nil, n => by simp [RelL.nil]
  | _, _, .cons v t, 0 => by simp [RelL.nil]
  | _, _, .cons v t, n + 1 => by
    rw [List.take_succ_cons, List.take_succ_cons]
    exact .cons v (t.take n)
theorem RelL.drop {φ : Ren} : ∀ {l l' : List Value}, RelL φ l l' → ∀ n, RelL φ (l.drop n) (l'.drop n)
  | _, _, .nil, n => by simp [RelL.nil]
  | _, _, .cons v t, 0 => .cons v t
  | _, _, .cons v t, n + 1 => by
    rw [List.drop_succ_cons, List.drop_succ_cons]
    exact t.drop n
theorem RelL.set {φ : Ren} {u u' : Value} (h : Rel φ u u') : ∀ {l l' : List Value}, RelL φ l l' → ∀ n, RelL φ (l.set n u) (l'.set n u')
  | _, _, .nil, n => by simp [RelL.nil]
  | _, _, .cons v t, 0 => .cons h t
  | _, _, .cons v t, n + 1 => .cons v (RelL.set h t n)
theorem RelL.map {α : Type} {φ : Ren} {f g : α → Value} : ∀ {l : List α}, (∀ x ∈ l, Rel φ (f x) (g x)) → RelL φ (l.map f) (l.map g)
  | [], _ => .nil
  | x :: l, h => .cons (h x (List.mem_cons_self ..)) (RelL.map fun y hy => h y (List.mem_cons_of_mem _ hy))
theorem Rel.oneCell {φ : Ren} {v v' : Value} (h : Rel φ v v') : v'.oneCell' = v.oneCell' := by cases h <;> rfl
theorem RelL.oneCell {φ : Ren} : ∀ {l l' : List Value}, RelL φ l l' → l.all (·.oneCell') = true → ∀ u ∈ l', u.oneCell' = true
  | _, _, .nil, _, u, hu => by cases hu
  | _, _, .cons v t, h, u, hu => by
    simp only [List.all_cons, Bool.and_eq_true] at h
    rcases List.mem_cons.1 hu with rfl | hu
    · rw [v.oneCell]; exact h.1
    · exact t.oneCell h.2 u hu
theorem Rel.cells {φ : Ren} {v v' : Value} (h : Rel φ v v') : RelL φ v.cells.toList v'.cells.toList := by
  cases h <;> first | assumption | exact .cons (by first | exact .bool _ | exact .int _ _ | exact .float _ _ | exact .complex _ _ _ | exact .string _ | exact .nilPtr | exact .nilMap | exact .nilFunc | exact .nilIface | exact .nilSlice | (exact .ptr (by assumption)) | (exact .map (by assumption)) | (exact .slice (by assumption) (by assumption) (by assumption)) | (exact .func _ (by assumption) (by assumption)) | (exact .tuple (by assumption))) .nil
/-! ### The relation -/
/-- The entries of a map: the same keys, the same ages. -/
inductive EL (φ : Ren) : List (Value × Value × Nat) → List MapEntry → Prop
  | nil : EL φ [] []
  | cons {k v v' : Value} {n : Nat} {l : List (Value × Value × Nat)} {l' : List MapEntry} (hk : plain k = true) (h : Rel φ v v') (t : EL φ l l') : EL φ ((k, v, n) :: l) (⟨k, v', n⟩ :: l')
theorem EL.mono {φ φ' : Ren} (hφ : ∀ b x, φ b = some x → φ' b = some x) {l : List (Value × Value × Nat)} {l' : List MapEntry} (h : EL φ l l') : EL φ' l l' := by
  induction h with
  | nil => exact .nil
  | cons hk h t ih => exact .cons hk (h.mono hφ) ih
def BRel (φ : Ren) (base : Nat) (w : World) (B O K : Nat) : Blk → Prop
  | .cells true e sz cs => O = 0 ∧ base ≤ B ∧ ∃ arr, w.heap[B]? = some (.cells arr e (0, 0)) ∧ arr.size = K * sz ∧ ∀ (i : Nat) (v : Value), cs[i]? = some v → ∃ v', arr[i]? = some v' ∧ Rel φ v v'
  | .cells false _ sz cs => (sz = 0 → K = 0) ∧ ∀ (i : Nat) (v : Value), cs[i]? = some v → ∃ v', w.cell? ⟨B, O + i, none⟩ = some v' ∧ Rel φ v v'
  | .map es clock => O = 0 ∧ base ≤ B ∧ ∃ es', w.heap[B]? = some (.map es' clock) ∧ EL φ es es'.toList
def Blk.real : Blk → Bool
  | .cells own _ _ cs => own || !cs.isEmpty
  | .map _ _ => true
structure HRel (base : Nat) (φ : Ren) (G : Nat → Option Blk) (w : World) : Prop where
  bs : base ≤ w.heap.size
  live : ∀ b x, G b = some x → ∃ B O K, φ b = some (B, O, K) ∧ BRel φ base w B O K x
  apart : ∀ b b' x x' B O K B' O' K', b ≠ b' → G b = some x → G b' = some x' → φ b = some (B, O, K) → φ b' = some (B', O', K') → x.own = true → x'.real = true → B ≠ B'
theorem cell_own {w : World} {B e i : Nat} {arr : Array Value} {v : Value} (h : w.heap[B]? = some (.cells arr e (0, 0))) (hi : arr[i]? = some v) : w.cell? ⟨B, i, none⟩ = some v := by
  simp [World.cell?, h, hi]
theorem BRel.cell {φ : Ren} {base : Nat} {w : World} {B O K : Nat} {own : Bool} {e sz : Nat} {cs : List Value} (h : BRel φ base w B O K (.cells own e sz cs)) {i : Nat} {v : Value} (hv : cs[i]? = some v) :
    ∃ v', w.cell? ⟨B, O + i, none⟩ = some v' ∧ Rel φ v v' := by
  cases own with
  | true =>
    obtain ⟨rfl, _, arr, h1, _, h3⟩ := h
    obtain ⟨v', h4, h5⟩ := h3 i v hv
    exact ⟨v', by rw [Nat.zero_add]; exact cell_own h1 h4, h5⟩
  | false => exact h.2 i v hv
theorem BRel.mono {φ φ' : Ren} (hφ : ∀ b x, φ b = some x → φ' b = some x) {base : Nat} {w : World} {B O K : Nat} : ∀ {x : Blk}, BRel φ base w B O K x → BRel φ' base w B O K x
  | .cells true e sz cs, ⟨h0, hb, arr, h1, h2, h3⟩ => ⟨h0, hb, arr, h1, h2, fun i v hv => let ⟨v', h4, h5⟩ := h3 i v hv; ⟨v', h4, h5.mono hφ⟩⟩
  | .cells false e sz cs, h => ⟨h.1, fun i v hv => let ⟨v', h4, h5⟩ := h.2 i v hv; ⟨v', h4, h5.mono hφ⟩⟩
  | .map _ _, ⟨h0, hb, es', h1, h2⟩ => ⟨h0, hb, es', h1, h2.mono hφ⟩
theorem BRel.frame {φ : Ren} {base : Nat} {w w' : World} {B O K : Nat} (hB : w'.heap[B]? = w.heap[B]?) : ∀ {x : Blk}, BRel φ base w B O K x → BRel φ base w' B O K x
  | .cells true e sz cs, ⟨h0, hb, arr, h1, h2, h3⟩ => ⟨h0, hb, arr, hB.trans h1, h2, h3⟩
  | .cells false e sz cs, h => ⟨h.1, fun i v hv => let ⟨v', h4, h5⟩ := h.2 i v hv; ⟨v', by unfold World.cell? at h4 ⊢; rw [hB]; exact h4, h5⟩⟩
  | .map _ _, ⟨h0, hb, es', h1, h2⟩ => ⟨h0, hb, es', hB.trans h1, h2⟩
theorem BRel.lt {φ : Ren} {base : Nat} {w : World} {B O K : Nat} : ∀ {x : Blk}, BRel φ base w B O K x → x.real = true → B < w.heap.size
  | .cells true e sz cs, ⟨_, hb, arr, h1, _, _⟩, _ => (Array.getElem?_eq_some_iff.1 h1).1
  | .cells false e sz [], _, h => by simp [Blk.real] at h
  | .cells false e sz (c :: cs), h, _ => by
    obtain ⟨v', h3, _⟩ := h.2 0 c rfl
    exact World.block_lt_of_cell? w _ h3
  | .map _ _, ⟨_, _, es', h1, _⟩, _ => (Array.getElem?_eq_some_iff.1 h1).1
theorem BRel.there {φ : Ren} {base : Nat} {w : World} {B O K : Nat} {x : Blk} (h : BRel φ base w B O K x) (ho : x.own = true) : base ≤ B ∧ B < w.heap.size := by
  match x, h, ho with
  | .cells true e sz cs, ⟨_, hb, arr, h1, _, _⟩, _ => exact ⟨hb, (Array.getElem?_eq_some_iff.1 h1).1⟩
  | .map _ _, ⟨_, hb, es', h1, _⟩, _ => exact ⟨hb, (Array.getElem?_eq_some_iff.1 h1).1⟩
/-- Reading: the cells. -/
theorem read_cells {base : Nat} {φ : Ren} {G : Nat → Option Blk} {w : World} (hH : HRel base φ G w) {b o n B O K : Nat} {own : Bool} {e sz : Nat} {cs : List Value} (hb : G b = some (.cells own e sz cs)) (hφ : φ b = some (B, O, K)) (hn : o + n ≤ cs.length) :
    ∃ l, RelL φ ((cs.drop o).take n) l ∧ l.length = n ∧ ∀ (j : Nat) (v : Value), l[j]? = some v → w.cell? ⟨B, O + o + j, none⟩ = some v := by
  obtain ⟨B', O', K', h1, h2⟩ := hH.live b _ hb
  rw [hφ] at h1
  cases h1
  have hlen : ((cs.drop o).take n).length = n := by rw [List.length_take, List.length_drop]; omega
  have hc : ∀ (j : Nat) (v : Value), ((cs.drop o).take n)[j]? = some v → ∃ v', w.cell? ⟨B, O + o + j, none⟩ = some v' ∧ Rel φ v v' := fun j v hv => by
    rw [List.getElem?_take] at hv
    split at hv
    · rw [List.getElem?_drop] at hv
      have := h2.cell hv
      rw [Nat.add_assoc]
      exact this
    · cases hv
  refine ⟨(List.range n).map fun j => (w.cell? ⟨B, O + o + j, none⟩).getD undef, ?_, by simp, ?_⟩
  · refine RelL.of_get (by rw [hlen]; simp) fun j v hv => ?_
    obtain ⟨v', h3, h4⟩ := hc j v hv
    have hj : j < n := by
      have := (List.getElem?_eq_some_iff.1 hv).1
      omega
    exact ⟨v', by simp [hj, h3], h4⟩
  · intro j v hv
    have hj : j < n := by
      have := (List.getElem?_eq_some_iff.1 hv).1
      simpa using this
    obtain ⟨v', h3, h4⟩ := hc j _ (List.getElem?_eq_getElem (by omega))
    simp [hj, h3] at hv
    rw [h3, hv]
theorem add_addr (B p j : Nat) : (⟨B, p, none⟩ : Addr).add j = ⟨B, p + j, none⟩ := by
  unfold Addr.add
  split
  · rename_i h
    subst h
    rfl
  · rfl
theorem run_loadCells_of {P : Program} {w : World} {B p n : Nat} {l : List Value} (hl : l.length = n) (h : ∀ j v, l[j]? = some v → w.cell? ⟨B, p + j, none⟩ = some v) : (loadCells ⟨B, p, none⟩ n).run P w = .ok ⟨l⟩ w := by
  subst hl
  exact run_loadCells_list w _ l fun j v hv => by rw [add_addr]; exact h j v hv
/-- What one step of the abstract machine owes. -/
def Ext (φ φ' : Ren) (n n' : Nat) : Prop := (∀ b x, φ b = some x → φ' b = some x) ∧ ∀ b, φ' b ≠ φ b → n ≤ b ∧ b < n'
theorem Ext.refl (φ : Ren) (n n' : Nat) : Ext φ φ n n' := ⟨fun _ _ h => h, fun _ h => absurd rfl h⟩
def Out (P : Program) (base : Nat) (φ : Ren) (s s' : St) (w : World) (v : Value) (sem : Sem Value) : Prop :=
  ∃ φ' v' w', Ext φ φ' s.next s'.next ∧ HRel base φ' s'.get w' ∧ Below base w w' ∧ Rel φ' v v' ∧ sem.run P w = .ok v' w'
theorem Out.same {P : Program} {base : Nat} {φ : Ren} {s : St} {w : World} {v v' : Value} {sem : Sem Value} (hH : HRel base φ s.get w) (hv : Rel φ v v') (hr : sem.run P w = .ok v' w) : Out P base φ s s w v sem :=
  ⟨φ, v', w, Ext.refl _ _ _, hH, Below.refl _ _, hv, hr⟩
/-- A new block. -/
theorem HRel.newB {base : Nat} {φ : Ren} {G : Nat → Option Blk} {w : World} (hH : HRel base φ G w) {n : Nat} (hn : φ n = none) {K : Nat} {x0 : Blk} {o : Obj} (hown : x0.own = true) (hx0 : ∀ φ', (∀ b x, φ b = some x → φ' b = some x) → BRel φ' base (w.alloc o) w.heap.size 0 K x0) :
    HRel base (upd φ n (some (w.heap.size, 0, K))) (upd G n (some x0)) (w.alloc o) ∧ Ext φ (upd φ n (some (w.heap.size, 0, K))) n (n + 1) := by
  have hmono : ∀ b x, φ b = some x → upd φ n (some (w.heap.size, 0, K)) b = some x := fun b x h => by
    unfold upd
    split
    · rename_i hb
      subst hb
      rw [hn] at h
      cases h
    · exact h
  have hold : ∀ k, k < w.heap.size → (w.alloc o).heap[k]? = w.heap[k]? := fun k hk => heap_alloc_old w _ k hk
  refine ⟨⟨by simp; have := hH.bs; omega, fun b x hb => ?_, fun b b' x x' B O K1 B' O' K2 hne hb hb' hφ hφ' ho hr => ?_⟩, hmono, fun b hb => ?_⟩
  · unfold upd at hb
    split at hb
    · rename_i h
      subst h
      cases hb
      exact ⟨w.heap.size, 0, K, by simp [upd], hx0 _ hmono⟩
    · rename_i h
      obtain ⟨B, O, K', h1, h2⟩ := hH.live b x hb
      refine ⟨B, O, K', hmono _ _ h1, BRel.mono hmono ?_⟩
      match x, h2 with
      | .cells true e' sz' cs', h2 =>
        have := (BRel.there h2 rfl).2
        exact BRel.frame (hold _ this) h2
      | .cells false e' sz' cs', h2 =>
        refine ⟨h2.1, fun i v hv => ?_⟩
        obtain ⟨v', h3, h4⟩ := h2.2 i v hv
        have := World.block_lt_of_cell? w _ h3
        exact ⟨v', by rw [World.cell?_alloc_lt w _ _ this]; exact h3, h4⟩
      | .map _ _, h2 =>
        have := (BRel.there h2 rfl).2
        exact BRel.frame (hold _ this) h2
  · have key : ∀ c x B O K', c ≠ n → upd G n (some x0) c = some x → upd φ n (some (w.heap.size, 0, K)) c = some (B, O, K') → G c = some x ∧ φ c = some (B, O, K') := fun c x B O K' hc h1 h2 => by
      unfold upd at h1 h2
      rw [if_neg hc] at h1 h2
      exact ⟨h1, h2⟩
    have kn : ∀ x B O K', upd G n (some x0) n = some x → upd φ n (some (w.heap.size, 0, K)) n = some (B, O, K') → B = w.heap.size ∧ x = x0 := fun x B O K' h1 h2 => by
      unfold upd at h1 h2
      rw [if_pos rfl] at h1 h2
      cases h1
      cases h2
      exact ⟨rfl, rfl⟩
    by_cases h1 : b = n
    · subst h1
      obtain ⟨rfl, rfl⟩ := kn _ _ _ _ hb hφ
      obtain ⟨h2, h3⟩ := key b' _ _ _ _ (Ne.symm hne) hb' hφ'
      obtain ⟨_, _, _, h4, h5⟩ := hH.live b' _ h2
      rw [h3] at h4
      cases h4
      exact Nat.ne_of_gt (h5.lt hr)
    · obtain ⟨h2, h3⟩ := key b _ _ _ _ h1 hb hφ
      by_cases h6 : b' = n
      · subst h6
        obtain ⟨rfl, rfl⟩ := kn _ _ _ _ hb' hφ'
        obtain ⟨_, _, _, h4, h5⟩ := hH.live b _ h2
        rw [h3] at h4
        cases h4
        exact Nat.ne_of_lt (h5.there ho).2
      · obtain ⟨h4, h5⟩ := key b' _ _ _ _ h6 hb' hφ'
        exact hH.apart b b' _ _ _ _ _ _ _ _ hne h2 h4 h3 h5 ho hr
  · unfold upd at hb
    split at hb
    · omega
    · exact absurd rfl hb
theorem HRel.new {base : Nat} {φ : Ren} {G : Nat → Option Blk} {w : World} (hH : HRel base φ G w) {n : Nat} (hn : φ n = none) {e sz K : Nat} {cs : List Value} {arr : Array Value}
    (hs : arr.size = K * sz) (hc : ∀ (i : Nat) (v : Value), cs[i]? = some v → ∃ v', arr[i]? = some v' ∧ Rel φ v v') :
    HRel base (upd φ n (some (w.heap.size, 0, K))) (upd G n (some (.cells true e sz cs))) (w.alloc (.cells arr e)) ∧ Ext φ (upd φ n (some (w.heap.size, 0, K))) n (n + 1) :=
  hH.newB hn rfl fun φ' hφ => ⟨rfl, hH.bs, arr, heap_alloc_new w _, hs, fun i v hv => by
    obtain ⟨v', h1, h2⟩ := hc i v hv
    exact ⟨v', h1, h2.mono hφ⟩⟩
/-- A new name for nothing: a slice without room. -/
theorem HRel.newNone {base : Nat} {φ : Ren} {G : Nat → Option Blk} {w : World} (hH : HRel base φ G w) {n : Nat} (hn : φ n = none) (e B O : Nat) :
    HRel base (upd φ n (some (B, O, 0))) (upd G n (some (.cells false e 0 []))) w ∧ Ext φ (upd φ n (some (B, O, 0))) n (n + 1) := by
  have hmono : ∀ b x, φ b = some x → upd φ n (some (B, O, 0)) b = some x := fun b x h => by
    unfold upd
    split
    · rename_i hb
      subst hb
      rw [hn] at h
      cases h
    · exact h
  have key : ∀ c x, c ≠ n → upd G n (some (.cells false e 0 [])) c = some x → G c = some x := fun c x hc h => by
    unfold upd at h
    rwa [if_neg hc] at h
  have kn : ∀ x, upd G n (some (.cells false e 0 [])) n = some x → x = .cells false e 0 [] := fun x h => by
    unfold upd at h
    rw [if_pos rfl] at h
    exact (Option.some.inj h).symm
  have keyφ : ∀ c, c ≠ n → upd φ n (some (B, O, 0)) c = φ c := fun c hc => by
    unfold upd
    rw [if_neg hc]
  refine ⟨⟨hH.bs, fun b x hb => ?_, fun b b' x x' B1 O1 K1 B2 O2 K2 hne hb hb' h1 h2 ho hr => ?_⟩, hmono, fun b hb => ?_⟩
  · by_cases h : b = n
    · subst h
      obtain rfl := kn x hb
      exact ⟨B, O, 0, by simp [upd], fun _ => rfl, fun i v hv => by simp at hv⟩
    · obtain ⟨B', O', K', h1, h2⟩ := hH.live b x (key b x h hb)
      exact ⟨B', O', K', hmono _ _ h1, h2.mono hmono⟩
  · have hbn : b ≠ n := fun h => by
      subst h
      rw [kn x hb] at ho
      cases ho
    have hbn' : b' ≠ n := fun h => by
      subst h
      rw [kn x' hb'] at hr
      cases hr
    rw [keyφ b hbn] at h1
    rw [keyφ b' hbn'] at h2
    exact hH.apart b b' x x' _ _ _ _ _ _ hne (key b x hbn hb) (key b' x' hbn' hb') h1 h2 ho hr
  · by_cases h : b = n
    · omega
    · exact absurd (keyφ b h) hb
end Go.Am
