/- An abstract machine for Go code: values up to the numbers of blocks, its operations. No condition. -/
import Derived.Orders
import Derived.LoopN
import Derived.Below
set_option linter.unusedVariables false
set_option linter.unusedSimpArgs false
set_option linter.unusedSectionVars false
namespace Go.Am
mutual
def plain : Value → Bool
  | .bool _ | .int _ _ | .string _ | .float _ _ | .complex _ _ _ | .pointer none | .map none | .nilFunc | .nilIface => true
  | .slice none n c => n == 0 && c == 0
  | .func _ ⟨f⟩ ⟨c⟩ => plainL f && plainL c
  | .agg ⟨l⟩ => plainL l
  | .tuple ⟨l⟩ => plainL l
  | _ => false
def plainL : List Value → Bool
  | [] => true
  | v :: l => plain v && plainL l
end
abbrev Ren := Nat → Option (Nat × Nat × Nat)
mutual
inductive Rel (φ : Ren) : Value → Value → Prop
  | bool (b : Bool) : Rel φ (.bool b) (.bool b)
  | int (k : IntKind) (n : Int) : Rel φ (.int k n) (.int k n)
  | float (k : FloatKind) (n : Nat) : Rel φ (.float k n) (.float k n)
  | complex (k : FloatKind) (n m : Nat) : Rel φ (.complex k n m) (.complex k n m)
  | string (s : ByteArray) : Rel φ (.string s) (.string s)
  | nilPtr : Rel φ (.pointer none) (.pointer none)
  | nilMap : Rel φ (.map none) (.map none)
  | nilFunc : Rel φ .nilFunc .nilFunc
  | nilIface : Rel φ .nilIface .nilIface
  | nilSlice : Rel φ (.slice none 0 0) (.slice none 0 0)
  | ptr {b o B O K : Nat} (h : φ b = some (B, O, K)) : Rel φ (.pointer (some ⟨b, o, none⟩)) (.pointer (some ⟨B, O + o, none⟩))
  | map {b B O K : Nat} (h : φ b = some (B, O, K)) : Rel φ (.map (some b)) (.map (some B))
  | slice {b o B O K n i p : Nat} (h : φ b = some (B, O, K)) (hi : n + i ≤ K) (hp : p = O + o ∨ i = K) : Rel φ (.slice (some ⟨b, o, none⟩) n i) (.slice (some ⟨B, p, none⟩) n (K - i))
  | func {f f' c c' : List Value} (fn : Fn) (h : RelL φ f f') (g : RelL φ c c') : Rel φ (.func fn ⟨f⟩ ⟨c⟩) (.func fn ⟨f'⟩ ⟨c'⟩)
  | agg {l l' : List Value} (h : RelL φ l l') : Rel φ (.agg ⟨l⟩) (.agg ⟨l'⟩)
  | tuple {l l' : List Value} (h : RelL φ l l') : Rel φ (.tuple ⟨l⟩) (.tuple ⟨l'⟩)
inductive RelL (φ : Ren) : List Value → List Value → Prop
  | nil : RelL φ [] []
  | cons {v v' : Value} {l l' : List Value} (h : Rel φ v v') (t : RelL φ l l') : RelL φ (v :: l) (v' :: l')
end
mutual
theorem Rel.mono {φ φ' : Ren} (h : ∀ b x, φ b = some x → φ' b = some x) : ∀ {v v' : Value}, Rel φ v v' → Rel φ' v v'
  | _, _, .bool b => .bool b
  | _, _, .int k n => .int k n
  | _, _, .float k n => .float k n
  | _, _, .complex k n m => .complex k n m
  | _, _, .string s => .string s
  | _, _, .nilPtr => .nilPtr
  | _, _, .nilMap => .nilMap
  | _, _, .nilFunc => .nilFunc
  | _, _, .nilIface => .nilIface
  | _, _, .nilSlice => .nilSlice
  | _, _, .ptr g => .ptr (h _ _ g)
  | _, _, .map g => .map (h _ _ g)
  | _, _, .slice g hi hp => .slice (h _ _ g) hi hp
  | _, _, .func fn f c => .func fn (RelL.mono h f) (RelL.mono h c)
  | _, _, .agg l => .agg (RelL.mono h l)
  | _, _, .tuple l => .tuple (RelL.mono h l)
theorem RelL.mono {φ φ' : Ren} (h : ∀ b x, φ b = some x → φ' b = some x) : ∀ {l l' : List Value}, RelL φ l l' → RelL φ' l l'
  | _, _, .nil => .nil
  | _, _, .cons v l => .cons (Rel.mono h v) (RelL.mono h l)
end
mutual
theorem plain_rel {φ : Ren} : ∀ {v : Value}, plain v = true → Rel φ v v
  | .bool b, _ => .bool b
  | .int k n, _ => .int k n
  | .float k n, _ => .float k n
  | .complex k n m, _ => .complex k n m
  | .string s, _ => .string s
  | .pointer none, _ => .nilPtr
  | .map none, _ => .nilMap
  | .nilFunc, _ => .nilFunc
  | .nilIface, _ => .nilIface
  | .slice none n c, h => by
    simp [plain] at h
    obtain ⟨rfl, rfl⟩ := h
    exact .nilSlice
  | .func fn ⟨f⟩ ⟨c⟩, h => by
    simp [plain] at h
    exact .func fn (plain_relL h.1) (plain_relL h.2)
  | .agg ⟨l⟩, h => .agg (plain_relL (by simpa [plain] using h))
  | .tuple ⟨l⟩, h => .tuple (plain_relL (by simpa [plain] using h))
theorem plain_relL {φ : Ren} : ∀ {l : List Value}, plainL l = true → RelL φ l l
  | [], _ => .nil
  | v :: l, h => by
    simp [plainL] at h
    exact .cons (plain_rel h.1) (plain_relL h.2)
end
mutual
theorem rel_plain {φ : Ren} : ∀ {v v' : Value}, Rel φ v v' → plain v = true → v' = v
  | _, _, .bool b, _ => rfl
  | _, _, .int k n, _ => rfl
  | _, _, .float k n, _ => rfl
  | _, _, .complex k n m, _ => rfl
  | _, _, .string s, _ => rfl
  | _, _, .nilPtr, _ => rfl
  | _, _, .nilMap, _ => rfl
  | _, _, .nilFunc, _ => rfl
  | _, _, .nilIface, _ => rfl
  | _, _, .nilSlice, _ => rfl
  | _, _, .ptr g, h => by simp [plain] at h
  | _, _, .map g, h => by simp [plain] at h
  | _, _, .slice g hi hp, h => by simp [plain] at h
  | _, _, .func fn f c, h => by
    simp [plain] at h
    rw [rel_plainL f h.1, rel_plainL c h.2]
  | _, _, .agg l, h => by rw [rel_plainL l (by simpa [plain] using h)]
  | _, _, .tuple l, h => by rw [rel_plainL l (by simpa [plain] using h)]
theorem rel_plainL {φ : Ren} : ∀ {l l' : List Value}, RelL φ l l' → plainL l = true → l' = l
  | _, _, .nil, _ => rfl
  | _, _, .cons v l, h => by
    simp [plainL] at h
    rw [rel_plain v h.1, rel_plainL l h.2]
end

/-! ### The abstract machine -/
inductive Blk where
  | cells (own : Bool) (e sz : Nat) (cs : List Value)
  | map (es : List (Value × Value × Nat)) (clock : Nat)
def Blk.own : Blk → Bool
  | .cells o _ _ _ => o
  | .map _ _ => true
structure St where
  get : Nat → Option Blk
  next : Nat
  lo : Nat
def upd {α : Type} (f : Nat → α) (n : Nat) (x : α) : Nat → α := fun m => if m = n then x else f m
inductive Acc where
  | read | write | new
  deriving DecidableEq
abbrev Log := List (Nat × Acc)
inductive M (α : Type) : Type where
  | fail
  | ret (a : α)
  | get (b : Nat) (k : Blk → M α)
  | put (b : Nat) (x : Option Blk) (k : M α)
  | new (x : Blk) (k : Nat → M α)
namespace M
def bind {α β : Type} : M α → (α → M β) → M β
  | .fail, _ => .fail
  | .ret a, f => f a
  | .get b k, f => .get b fun x => (k x).bind f
  | .put b x k, f => .put b x (k.bind f)
  | .new x k, f => .new x fun n => (k n).bind f
def opt {α : Type} : Option α → M α
  | some a => .ret a
  | none => .fail
def run {α : Type} : M α → St → Option (α × St × Log)
  | .fail, _ => none
  | .ret a, s => some (a, s, [])
  | .get b k, s => match s.get b with
    | some x => ((k x).run s).map fun r => (r.1, r.2.1, (b, .read) :: r.2.2)
    | none => none
  | .put b x k, s => match s.get b with
    | some _ => if s.lo ≤ b ∧ b < s.next then ((k.run { s with get := upd s.get b x }).map fun r => (r.1, r.2.1, (b, .write) :: r.2.2)) else none
    | none => none
  | .new x k, s => ((k s.next).run { s with get := upd s.get s.next (some x), next := s.next + 1 }).map fun r => (r.1, r.2.1, (s.next, .new) :: r.2.2)
end M
instance : Monad M where
  pure := M.ret
  bind := M.bind
/-- What a program asks only of its own text. -/
def pureRun {α : Type} (P : Program) : Sem α → Option α
  | .pure a => some a
  | .program k => pureRun P (k P)
  | .mark _ k => pureRun P k
  | _ => none
theorem pureRun_run {α : Type} {P : Program} {a : α} (w : World) : ∀ {s : Sem α}, pureRun P s = some a → s.run P w = .ok a w
  | .pure b, h => by simp [pureRun] at h; subst h; rfl
  | .program k, h => pureRun_run (s := k P) w (by simpa [pureRun] using h)
  | .mark m k, h => pureRun_run (s := k) w (by simpa [pureRun] using h)
  | .load .., h => by simp [pureRun] at h
  | .store .., h => by simp [pureRun] at h
  | .new .., h => by simp [pureRun] at h
  | .shape .., h => by simp [pureRun] at h
  | .freeze .., h => by simp [pureRun] at h
  | .frozen .., h => by simp [pureRun] at h
  | .getObj .., h => by simp [pureRun] at h
  | .setObj .., h => by simp [pureRun] at h
  | .choose .., h => by simp [pureRun] at h
  | .sys .., h => by simp [pureRun] at h
  | .halt .., h => by simp [pureRun] at h
def asPtr : Value → M (Nat × Nat)
  | .pointer (some ⟨b, o, none⟩) => .ret (b, o)
  | _ => .fail
def cellsAt (b o n : Nat) : M (List Value) := .get b fun
  | .cells _ _ _ cs => if o + n ≤ cs.length then .ret ((cs.drop o).take n) else .fail
  | _ => .fail
def putAt (b o : Nat) (vs : List Value) : M Unit := .get b fun
  | .cells true e sz cs => if o + vs.length ≤ cs.length ∧ vs.all (·.oneCell') = true then .put b (some (.cells true e sz (cs.take o ++ vs ++ cs.drop (o + vs.length)))) (.ret ()) else .fail
  | _ => .fail
def agg? (P : Program) (t : TypeId) : Option Bool :=
  match P.underlying t with
  | some (.struct _) | some (.array _ _) => some true
  | some _ => some false
  | none => none
def sz? (P : Program) (t : TypeId) : Option Nat := (P.info? t).map (·.size)
def zero? (P : Program) (t : TypeId) : Option Value := ((P.info? t).bind (·.zero)).bind fun z => if plain z = true then some z else none
def bytes? (P : Program) (t : TypeId) : Option Nat := (P.info? t).map (·.bytes)
def mkPart (P : Program) (t : TypeId) (cs : List Value) (off : Nat) : M Value :=
  match agg? P t, sz? P t with
  | some true, some n => .ret (.agg ⟨(cs.drop off).take n⟩)
  | some false, some _ => .opt cs[off]?
  | _, _ => .fail
def loadA (P : Program) (t : TypeId) (p : Value) : M Value := (asPtr p).bind fun (b, o) =>
  match agg? P t, sz? P t with
  | some true, some n => (cellsAt b o n).bind fun cs => .ret (.agg ⟨cs⟩)
  | some false, some _ => (cellsAt b o 1).bind fun cs => .opt cs[0]?
  | _, _ => .fail
def storeA (P : Program) (t : TypeId) (p v : Value) : M Unit := (asPtr p).bind fun (b, o) =>
  match sz? P t with
  | some n => if v.cells.toList.length = n then putAt b o v.cells.toList else .fail
  | none => .fail
def newA (t : TypeId) (cs : List Value) : M Value := .new (.cells true t cs.length cs) fun b => .ret (.pointer (some ⟨b, 0, none⟩))
def intOf? : Value → Option Int
  | .int _ n => some n
  | _ => none
def boolOf? : Value → Option Bool
  | .bool b => some b
  | _ => none
def reps (n : Nat) (l : List Value) : List Value := (List.replicate n l).flatten
def makeA (P : Program) (t : TypeId) (l c : Value) : M Value :=
  match P.underlying t, intOf? l, intOf? c with
  | some (.slice e), some n, some m =>
    match zero? P e, sz? P e, bytes? P e with
    | some z, some sz, some by_ => if 0 ≤ n ∧ n ≤ m ∧ m * (by_ : Int) ≤ 140737488355328 ∧ m < 9223372036854775808 ∧ z.cells.toList.length = sz then
          .new (.cells true e sz (reps n.toNat z.cells.toList)) fun b => .ret (.slice (some ⟨b, 0, none⟩) n.toNat 0) else .fail
    | _, _, _ => .fail
  | _, _, _ => .fail
def buildSliceA (P : Program) (t : TypeId) (len : Nat) (parts : List (Nat × Value)) : M Value :=
  match P.underlying t with
  | some (.slice e) => match zero? P e, sz? P e with
    | some z, some sz => if len * sz ≤ 16777216 ∧ z.cells.toList.length = sz then
          match Instr.fill (fun j => some (j * sz, sz)) ⟨reps len z.cells.toList⟩ parts with
          | some cs => .new (.cells true e sz cs.toList) fun b => .ret (.slice (some ⟨b, 0, none⟩) len 0)
          | none => .fail
        else .fail
    | _, _ => .fail
  | _ => .fail
def buildA (P : Program) (t : TypeId) (parts : List (Nat × Value)) : M Value :=
  match P.underlying t, zero? P t with
  | some (.struct fs), some z =>
    match fs.toList.mapM (fun f => (sz? P f.type).map fun n => (f.offset, n)) with
    | some places => match Instr.fill (fun j => places[j]?) z.cells parts with
      | some cs => .ret (.agg cs)
      | none => .fail
    | none => .fail
  | some (.array _ e), some z =>
    match sz? P e with
    | some n => match Instr.fill (fun j => some (j * n, n)) z.cells parts with
      | some cs => .ret (.agg cs)
      | none => .fail
    | none => .fail
  | _, _ => .fail
def fieldAddrA (P : Program) (t : TypeId) (x : Value) (f : Nat) : M Value :=
  match P.underlying t with
  | some (.struct fs) => match fs[f]? with
    | some fd => match sz? P fd.type with
      | some n => if n = 0 then .fail else (asPtr x).bind fun (b, o) => .ret (.pointer (some ⟨b, o + fd.offset, none⟩))
      | none => .fail
    | none => .fail
  | _ => .fail
def fieldA (P : Program) (t : TypeId) (x : Value) (f : Nat) : M Value :=
  match P.underlying t, x with
  | some (.struct fs), .agg ⟨cs⟩ => match fs[f]? with
    | some fd => mkPart P fd.type cs fd.offset
    | none => .fail
  | _, _ => .fail
def indexAddrA (P : Program) (t : TypeId) (x ix : Value) : M Value :=
  match P.underlying t, x, intOf? ix with
  | some (.slice e), .slice (some ⟨b, o, none⟩) n _, some i => match sz? P e with
    | some z => if 0 ≤ i ∧ i < (n : Int) then .ret (.pointer (some ⟨b, o + i.toNat * z, none⟩)) else .fail
    | none => .fail
  | some (.array n e), .pointer (some ⟨b, o, none⟩), some i => match sz? P e with
    | some z => if 0 ≤ i ∧ i < (n : Int) then .ret (.pointer (some ⟨b, o + i.toNat * z, none⟩)) else .fail
    | none => .fail
  | _, _, _ => .fail
def indexA (P : Program) (t : TypeId) (x ix : Value) : M Value :=
  match P.underlying t, x, intOf? ix with
  | some (.array n e), .agg ⟨cs⟩, some i => match sz? P e with
    | some z => if 0 ≤ i ∧ i < (n : Int) then mkPart P e cs (i.toNat * z) else .fail
    | none => .fail
  | _, _, _ => .fail
def bndI (o : Option Value) (d : Int) : Option Int :=
  match o with
  | none => some d
  | some v => intOf? v
def sliceA (P : Program) (t : TypeId) (x : Value) (lo hi mx : Option Value) : M Value :=
  match P.underlying t, x, mx with
  | some (.slice e), .slice a n i, some m =>
    match sz? P e, intOf? m, bndI lo 0, bndI hi (-1) with
    | some _, some q, some l, some h => if q = 0 ∧ l = 0 ∧ h = 0 then
        match a with
        | some ⟨_, _, none⟩ => .new (.cells false e 0 []) fun b => .ret (.slice (some ⟨b, 0, none⟩) 0 0)
        | none => if n = 0 ∧ i = 0 then .ret (.slice none 0 0) else .fail
        | _ => .fail
      else .fail
    | _, _, _, _ => .fail
  | some (.slice e), .slice a n i, none =>
    match sz? P e, bndI lo 0, bndI hi (n : Int) with
    | some z, some l, some h => if 0 ≤ l ∧ l ≤ h ∧ h ≤ (n : Int) then
        match a with
        | some ⟨b, o, none⟩ => .ret (.slice (some ⟨b, o + l.toNat * z, none⟩) (h.toNat - l.toNat) (i + l.toNat))
        | none => if n = 0 ∧ i = 0 then .ret (.slice none 0 0) else .fail
        | _ => .fail
      else .fail
    | _, _, _ => .fail
  | _, _, _ => .fail
def isNil : Value → Option Bool
  | .pointer a => some a.isNone
  | .slice a _ _ => some a.isNone
  | .map r => some r.isNone
  | .nilFunc => some true
  | .func .. => some false
  | _ => none
/-- Comparison with nil, one side being nil. -/
def nilEq (P : Program) (t : TypeId) (x y : Value) : Option Bool :=
  match P.underlying t, x, y with
  | some (.slice _), .slice none _ _, .slice b _ _ => some b.isNone
  | some (.slice _), .slice _ _ _, .slice none _ _ => some false
  | some (.pointer _), .pointer none, .pointer b => some b.isNone
  | some (.pointer _), .pointer _, .pointer none => some false
  | some (.map _ _), .map none, .map b => some b.isNone
  | some (.map _ _), .map _, .map none => some false
  | some (.func _ _ _), .nilFunc, .func _ _ _ => some false
  | some (.func _ _ _), .func _ _ _, .nilFunc => some false
  | _, _, _ => none
def ev (T : Nat → Value) : Operand → Value
  | .tmp t => T t
  | .const v => v
  | .func f => .func (.func f) #[] #[]
  | .global g => .pointer (some ⟨g, 0, none⟩)
def plainOp (P : Program) (T : Nat → Value) (o : Oper) : M Value :=
  if (o.op.operands.toList.all fun x => plain (ev T x)) = true then
    match pureRun P (execOp (ev T) o) with
    | some (.value v) => if plain v = true then .ret v else .fail
    | _ => .fail
  else .fail
def binA (P : Program) (T : Nat → Value) (o : Oper) (op : BinOp) (t : TypeId) (x y : Value) : M Value :=
  match op, nilEq P t x y with
  | .eql, some b => .ret (.bool b)
  | .neq, some b => .ret (.bool !b)
  | _, _ => plainOp P T o
def elemsA (z : Nat) : Value → M (List Value × Nat)
  | .slice none 0 0 => .ret ([], 0)
  | .slice (some ⟨b, o, none⟩) n _ => if n = 0 then .ret ([], 0) else (cellsAt b o (n * z)).bind fun cs => .ret (cs, n)
  | _ => .fail
def appendA (P : Program) (t u : TypeId) (s x : Value) : M Value :=
  if t ≠ u then .fail else
  match P.underlying t with
  | some (.slice e) => match zero? P e, sz? P e, bytes? P e with
    | some zv, some sz, some by_ => if zv.cells.toList.length = sz ∧ 0 < sz then
          (elemsA sz x).bind fun (news, m) =>
          if news.all (·.oneCell') = true then
          match s with
          | .slice none 0 0 => if m = 0 then .ret (.slice none 0 0) else
            if m * by_ ≤ 140737488355328 ∧ m < 9223372036854775808 then .new (.cells true e sz news) fun b => .ret (.slice (some ⟨b, 0, none⟩) m 0) else .fail
          | .slice (some ⟨b, 0, none⟩) n 0 => if m = 0 then .ret s else .get b fun
            | .cells true e' sz' cs =>
              if e' = e ∧ sz' = sz ∧ (n + m) * by_ ≤ 140737488355328 ∧ n + m < 9223372036854775808 then
                if n * sz = cs.length then .put b none (.new (.cells true e sz (cs ++ news)) fun c => .ret (.slice (some ⟨c, 0, none⟩) (n + m) 0))
                else if n * sz + news.length ≤ cs.length then .put b (some (.cells true e sz (cs.take (n * sz) ++ news ++ cs.drop (n * sz + news.length)))) (.ret (.slice (some ⟨b, 0, none⟩) (n + m) 0))
                else .fail
              else .fail
            | .cells false _ 0 [] => if n = 0 ∧ m * by_ ≤ 140737488355328 ∧ m < 9223372036854775808 then .new (.cells true e sz news) fun b => .ret (.slice (some ⟨b, 0, none⟩) m 0) else .fail
            | _ => .fail
          | _ => .fail
          else .fail
        else .fail
    | _, _, _ => .fail
  | _ => .fail
def copyA (P : Program) (t : TypeId) (d s : Value) : M Value :=
  match P.underlying t with
  | some (.slice e) => match sz? P e, d, s with
    | some z, .slice da dn _, .slice sa sn _ =>
      let n := Nat.min sn dn
      if n = 0 ∨ z = 0 then .fail else
      match da, sa with
      | some ⟨db, d0, none⟩, some ⟨sb, s0, none⟩ => (cellsAt sb s0 (n * z)).bind fun cs => (putAt db d0 cs).bind fun _ => .ret (.int .i64 n)
      | _, _ => .fail
    | _, _, _ => .fail
  | _ => .fail
def clearA (P : Program) (t : TypeId) (x : Value) : M Value :=
  match P.underlying t, x with
  | some (.slice e), .slice a n _ =>
    if n = 0 then .ret undef else
    match a, zero? P e with
    | some ⟨b, o, none⟩, some z => (putAt b o (reps n z.cells.toList)).bind fun _ => .ret undef
    | _, _ => .fail
  | _, _ => .fail
def mapOf (m : Value) : M (List (Value × Value × Nat)) :=
  match m with
  | .map none => .ret []
  | .map (some b) => .get b fun
    | .map es _ => .ret es
    | _ => .fail
  | _ => .fail
def ents (es : List (Value × Value × Nat)) : List MapEntry := es.map fun e => ⟨e.1, undef, e.2.2⟩
def findA (P : Program) (kt : TypeId) (k : Value) (es : List (Value × Value × Nat)) : Option (Option Nat) := (pureRun P (Instr.findKey kt k (ents es))).map fun r => r.map (·.1)
def keyOk (P : Program) (empty : Bool) (kt : TypeId) (k : Value) : Bool := plain k && (pureRun P (Instr.checkKey empty 10000 kt k)).isSome
def lookupA (P : Program) (t : TypeId) (m k : Value) (ok : Bool) : M Value :=
  match P.underlying t with
  | some (.map kt et) => (mapOf m).bind fun es =>
    if keyOk P es.isEmpty kt k = true then
      match findA P kt k es with
      | some (some i) => match es[i]? with
        | some e => .ret (if ok then .tuple #[e.2.1, .bool true] else e.2.1)
        | none => .fail
      | some none => match zero? P et with
        | some z => .ret (if ok then .tuple #[z, .bool false] else z)
        | none => .fail
      | none => .fail
    else .fail
  | _ => .fail
def updateA (P : Program) (t : TypeId) (m k v : Value) : M Unit :=
  match P.underlying t, m with
  | some (.map kt _), .map (some b) => .get b fun
    | .map es clock =>
      if keyOk P false kt k = true then
        match findA P kt k es with
        | some (some i) => match es[i]? with
          | some e => match pureRun P (Instr.keyThatStays e.1 k) with
            | some k' => if plain k' = true then .put b (some (.map (es.set i (k', v, e.2.2)) clock)) (.ret ()) else .fail
            | none => .fail
          | none => .fail
        | some none => .put b (some (.map (es ++ [(k, v, clock)]) (clock + 1))) (.ret ())
        | none => .fail
      else .fail
    | _ => .fail
  | _, _ => .fail
def makeMapA (r : Option Value) : M Value :=
  match r with
  | none => .new (.map [] 0) fun b => .ret (.map (some b))
  | some _ => .fail
def lenA (P : Program) (T : Nat → Value) (o : Oper) (t : TypeId) (x : Value) : M Value :=
  match P.underlying t, x with
  | some (.slice _), .slice _ n _ => .ret (.int .i64 n)
  | some (.map _ _), .map (some b) => .get b fun
    | .map es _ => .ret (.int .i64 es.length)
    | _ => .fail
  | _, _ => plainOp P T o
def builtinA (P : Program) (T : Nat → Value) (o : Oper) (b : Builtin) (ats : Array TypeId) (args : List Value) : M Value :=
  match b, args, ats.toList with
  | .append, [s, x], [t, u] => appendA P t u s x
  | .copy, [d, s], [t, _] => copyA P t d s
  | .len, [x], [t] => lenA P T o t x
  | .clear, [x], [t] => clearA P t x
  | .min, _, _ | .max, _, _ => plainOp P T o
  | _, _, _ => .fail
/-- One operation other than a call of a Go function. -/
def opA (P : Program) (T : Nat → Value) (o : Oper) : M Value :=
  match o.op with
  | .move x | .assign x => .ret (ev T x)
  | .pick c a b => match boolOf? (ev T c) with
    | some true => .ret (ev T a)
    | some false => .ret (ev T b)
    | none => .fail
  | .alloc e => match zero? P e with
    | some z => newA e z.cells.toList
    | none => .fail
  | .box e x => newA e (ev T x).cells.toList
  | .build t ps => buildA P t (ps.toList.map fun (i, x) => (i, ev T x))
  | .buildSlice t n ps => buildSliceA P t n (ps.toList.map fun (i, x) => (i, ev T x))
  | .load t a => loadA P t (ev T a)
  | .store t a x => (storeA P t (ev T a) (ev T x)).bind fun _ => .ret undef
  | .nilCheck x => match ev T x with
    | .pointer (some a) => .ret (.pointer (some a))
    | .func (.func f) a b => .ret (.func (.func f) a b)
    | _ => .fail
  | .binOp op t x y _ => binA P T o op t (ev T x) (ev T y)
  | .unOp .. | .convert .. => plainOp P T o
  | .makeFunc (.func f) first captured => .ret (.func (.func f) ⟨first.toList.map (ev T)⟩ ⟨captured.toList.map (ev T)⟩)
  | .makeSlice t l c => makeA P t (ev T l) (ev T c)
  | .makeMap t r => makeMapA (r.map (ev T))
  | .lookup t m k ok => lookupA P t (ev T m) (ev T k) ok
  | .mapUpdate t m k x | .insert t m k x => (updateA P t (ev T m) (ev T k) (ev T x)).bind fun _ => .ret undef
  | .slice t x lo hi mx => match ev T x with
    | .string _ => plainOp P T o
    | v => sliceA P t v (lo.map (ev T)) (hi.map (ev T)) (mx.map (ev T))
  | .fieldAddr t x f => fieldAddrA P t (ev T x) f
  | .field t x f => fieldA P t (ev T x) f
  | .indexAddr t x i => indexAddrA P t (ev T x) (ev T i)
  | .index t x i => match ev T x with
    | .string _ => plainOp P T o
    | v => indexA P t v (ev T i)
  | .extract x i => match ev T x with
    | .tuple ⟨l⟩ => .opt l[i]?
    | _ => .fail
  | .call { callee := .builtin b, args, argTypes } => builtinA P T o b argTypes (args.toList.map (ev T))
  | _ => .fail
end Go.Am
