/- Operations that touch no memory, as told; and that the machine does the same. -/
import Derived.Test.YthkmbfifiojmhaaAbsA
import Derived.Laws.StructEq
import Derived.Laws.Slices
import Derived.Laws.Strings
import Derived.Laws.Rows
namespace Go.Abs
open Go.RowKit

/-- What is asked of a type. -/
structure FK where
  off : Nat
  agg : Bool
  size : Nat
inductive TK where
  | bool | int (k : IntKind) | str | ptr (e : TypeId) | slice (e : TypeId) (sz : Nat) | array (n : Nat) (e : TypeId) (agg : Bool) (sz : Nat)
  | struct (fs : List FK) | map (k e : TypeId) | func | iface | other

def _root_.Go.Program.szO (P : Program) (t : TypeId) : Option Nat := (P.info? t).map (·.size)
def _root_.Go.Program.aggO (P : Program) (t : TypeId) : Option Bool :=
  match P.underlying t with
  | some (.struct _) | some (.array _ _) => some true
  | some _ => some false
  | none => none
/-- Is it of several cells, and how many are they? -/
def _root_.Go.Program.lk (P : Program) (t : TypeId) : Option (Bool × Nat) :=
  match P.aggO t, P.szO t with
  | some a, some s => some (a, s)
  | _, _ => none
def _root_.Go.Program.fk (P : Program) (f : Field) : Option FK :=
  match P.lk f.type with
  | some (a, s) => some ⟨f.offset, a, s⟩
  | none => none
def _root_.Go.Program.tk (P : Program) (t : TypeId) : TK :=
  match P.underlying t with
  | some .bool => .bool
  | some (.int k) => .int k
  | some .string => .str
  | some (.pointer e) => .ptr e
  | some (.slice e) => match P.szO e with | some s => .slice e s | none => .other
  | some (.array n e) => match P.lk e with | some (a, s) => .array n e a s | none => .other
  | some (.struct fs) => match fs.toList.mapM P.fk with | some l => .struct l | none => .other
  | some (.map k e) => .map k e
  | some (.func ..) => .func
  | some (.interface _) => .iface
  | _ => .other

section
variable {P : Program} {t : TypeId}
theorem tk_bool (h : P.tk t = .bool) : P.underlying t = some .bool := by
  unfold Program.tk at h
  split at h <;> first | assumption | (cases h; done) | (split at h <;> cases h)
theorem tk_int {k : IntKind} (h : P.tk t = .int k) : P.underlying t = some (.int k) := by
  unfold Program.tk at h
  split at h <;> first | (cases h; assumption) | (cases h; done) | (split at h <;> cases h)
theorem tk_str (h : P.tk t = .str) : P.underlying t = some .string := by
  unfold Program.tk at h
  split at h <;> first | assumption | (cases h; done) | (split at h <;> cases h)
theorem tk_slice {e : TypeId} {s : Nat} (h : P.tk t = .slice e s) : P.underlying t = some (.slice e) ∧ ∃ i, P.info? e = some i ∧ i.size = s := by
  unfold Program.tk at h
  split at h <;> first | (cases h; done) | skip
  · rename_i e' hu
    split at h
    · rename_i s' hs
      cases h
      unfold Program.szO at hs
      obtain ⟨i, hi, hs⟩ := Option.map_eq_some_iff.1 hs
      exact ⟨hu, i, hi, hs⟩
    · cases h
  · split at h <;> cases h
  · split at h <;> cases h
theorem lk_parts {a : Bool} {s : Nat} (h : P.lk t = some (a, s)) : P.aggO t = some a ∧ ∃ i, P.info? t = some i ∧ i.size = s := by
  unfold Program.lk at h
  split at h
  · rename_i a' s' ha hs
    cases h
    unfold Program.szO at hs
    obtain ⟨i, hi, hs⟩ := Option.map_eq_some_iff.1 hs
    exact ⟨ha, i, hi, hs⟩
  · cases h
theorem run_isAgg {a : Bool} (h : P.aggO t = some a) (w : World) : (isAgg t).run P w = .ok a w := by
  unfold Program.aggO at h
  split at h
  · rename_i fs hu; cases h; simp [isAgg, run_underlying hu]
  · rename_i n e hu; cases h; simp [isAgg, run_underlying hu]
  · rename_i d hn1 hn2 hu
    cases h
    simp only [isAgg, Sem.run_bind, run_underlying hu, Result.andThen_ok]
    cases d <;> first | rfl | (exact absurd hu (hn1 _)) | (exact absurd hu (hn2 _ _))
  · cases h
theorem tk_array {n : Nat} {e : TypeId} {a : Bool} {s : Nat} (h : P.tk t = .array n e a s) : P.underlying t = some (.array n e) ∧ P.lk e = some (a, s) := by
  unfold Program.tk at h
  split at h <;> first | (cases h; done) | skip
  · split at h <;> cases h
  · rename_i n' e' hu
    split at h
    · rename_i a' s' hs; cases h; exact ⟨hu, hs⟩
    · cases h
  · split at h <;> cases h
theorem mapM_get {α β : Type} {f : α → Option β} : ∀ {l : List α} {m : List β}, l.mapM f = some m → ∀ {i : Nat} {y : β}, m[i]? = some y → ∃ x, l[i]? = some x ∧ f x = some y
  | [], m, h, i, y, hy => by simp at h; subst h; simp at hy
  | x :: l, m, h, i, y, hy => by
    simp only [List.mapM_cons, Option.bind_eq_bind, Option.pure_def, Option.bind_eq_some_iff] at h
    obtain ⟨z, hz, l', hl, hm⟩ := h
    cases hm
    cases i with
    | zero => simp at hy; subst hy; exact ⟨x, rfl, hz⟩
    | succ i => simp at hy; obtain ⟨x', h1, h2⟩ := mapM_get hl hy; exact ⟨x', by simpa using h1, h2⟩
theorem mapM_length {α β : Type} {f : α → Option β} : ∀ {l : List α} {m : List β}, l.mapM f = some m → l.length = m.length
  | [], m, h => by simp at h; subst h; rfl
  | x :: l, m, h => by
    simp only [List.mapM_cons, Option.bind_eq_bind, Option.pure_def, Option.bind_eq_some_iff] at h
    obtain ⟨z, hz, l', hl, hm⟩ := h
    cases hm
    simp [mapM_length hl]
theorem tk_struct {l : List FK} (h : P.tk t = .struct l) : ∃ fs, P.underlying t = some (.struct fs) ∧ fs.toList.mapM P.fk = some l := by
  unfold Program.tk at h
  split at h <;> first | (cases h; done) | skip
  · split at h <;> cases h
  · split at h <;> cases h
  · rename_i fs hu
    split at h
    · rename_i l' hl; cases h; exact ⟨fs, hu, hl⟩
    · cases h
theorem tk_field {l : List FK} (h : P.tk t = .struct l) {i : Nat} {f : FK} (hf : l[i]? = some f) :
    ∃ fs fd, P.underlying t = some (.struct fs) ∧ fs[i]? = some fd ∧ fd.offset = f.off ∧ P.lk fd.type = some (f.agg, f.size) := by
  obtain ⟨fs, hu, hm⟩ := tk_struct h
  obtain ⟨fd, h1, h2⟩ := mapM_get hm hf
  unfold Program.fk at h2
  split at h2
  · rename_i a s hl
    cases h2
    exact ⟨fs, fd, hu, by simpa using h1, rfl, hl⟩
  · cases h2
theorem tk_map {k e : TypeId} (h : P.tk t = .map k e) : P.underlying t = some (.map k e) := by
  unfold Program.tk at h
  split at h <;> first | (cases h; assumption) | (cases h; done) | (split at h <;> cases h)
theorem tk_func (h : P.tk t = .func) : ∃ a b c, P.underlying t = some (.func a b c) := by
  unfold Program.tk at h
  split at h <;> first | exact ⟨_, _, _, by assumption⟩ | (cases h; done) | (split at h <;> cases h)
theorem run_sizeOf {i : TypeInfo} (h : P.info? t = some i) (w : World) : (sizeOf t).run P w = .ok i.size w := by
  simp [sizeOf, typeInfo, h]
end

/-! ### Values of the program's text -/
def absCell : Value → AV
  | .bool b => .bool b
  | .int k n => .int k n
  | .string s => .str s.data.toList
  | .pointer none => .ptr none 0
  | .slice none 0 0 => .slice none 0 0 1 (some 0)
  | .map none => .map none
  | .nilFunc => .nilFunc
  | .nilIface => .nilIface
  | _ => .undef
def absV : Value → AV
  | .agg cs => .agg (cs.toList.map absCell)
  | v => absCell v
theorem VR_absCell (σ : Sig) (v : Value) : VR σ (absCell v) v := by
  unfold absCell
  split <;> simp [VR]
theorem VR_absV (σ : Sig) (v : Value) : VR σ (absV v) v := by
  unfold absV
  split
  · rename_i cs
    simp only [VR]
    refine ⟨cs, rfl, ?_⟩
    have := VRs.map (σ := σ) absCell id (fun x => VR_absCell σ x) cs.toList
    simpa using this
  · exact VR_absCell σ v

abbrev Env := Nat → AV
def Env.set (E : Env) (d : Nat) (v : AV) : Env := fun t => if t = d then v else E t
def ev (E : Env) : Operand → AV
  | .tmp t => E t
  | .const v => absV v
  | .global _ => .undef
  | .func f => .func (.func f) [] []

structure Rel (N : Nat) (σ : Sig) (E : Env) (a : Act) : Prop where
  size : a.tmps.size = N
  defers : a.defers = []
  tmps : ∀ t, VR σ (E t) (a.tmps.getD t undef)
theorem Rel.ev {N : Nat} {σ : Sig} {E : Env} {a : Act} (h : Rel N σ E a) (x : Operand) : VR σ (ev E x) (a.eval x) := by
  cases x with
  | tmp t => exact h.tmps t
  | const v => exact VR_absV σ v
  | global g => simp only [Abs.ev, VR]
  | func f => simp only [Abs.ev, VR, Act.eval]; exact ⟨#[], #[], rfl, trivial, trivial⟩
theorem Rel.mono {N : Nat} {σ τ : Sig} {E : Env} {a : Act} (h : Rel N σ E a) (hs : Sig.le σ τ) : Rel N τ E a := ⟨h.size, h.defers, fun t => VR.mono hs _ _ (h.tmps t)⟩
theorem Rel.put {N : Nat} {σ : Sig} {E : Env} {a : Act} (h : Rel N σ E a) {d : Nat} (hd : d < N) {v : AV} {v' : Value} (hv : VR σ v v') : Rel N σ (E.set d v) (a.put (some d) v') := by
  refine ⟨by simp [Act.put, h.size], h.defers, fun t => ?_⟩
  simp only [Env.set, Act.put]
  by_cases e : t = d
  · subst e
    rw [if_pos rfl]
    have hs : t < a.tmps.size := by rw [h.size]; exact hd
    simpa [hs] using hv
  · rw [if_neg e]
    have := h.tmps t
    rwa [show (a.tmps.setIfInBounds d v').getD t undef = a.tmps.getD t undef by simp [Array.getElem?_setIfInBounds_ne (Ne.symm e)]]

/-! ### Numbers -/
def intBin (op : BinOp) (k : IntKind) (x y : Int) : Option AV :=
  match op with
  | .add => some (.int k (k.wrap (x + y)))
  | .sub => some (.int k (k.wrap (x - y)))
  | .mul => some (.int k (k.wrap (x * y)))
  | .quo => if y = 0 then none else some (.int k (k.wrap (x.tdiv y)))
  | .rem => if y = 0 then none else some (.int k (x.tmod y))
  | .and => some (.int k (bits .and k x y))
  | .or => some (.int k (bits .or k x y))
  | .xor => some (.int k (bits .xor k x y))
  | .andNot => some (.int k (bits .andNot k x y))
  | .eql => some (.bool (decide (x = y)))
  | .neq => some (.bool (!decide (x = y)))
  | .lss => some (.bool (decide (x < y)))
  | .leq => some (.bool (decide (x ≤ y)))
  | .gtr => some (.bool (decide (y < x)))
  | .geq => some (.bool (decide (y ≤ x)))
  | _ => none
def shiftA (op : BinOp) (k : IntKind) (x y : Int) : Option AV :=
  if y < 0 then none else
  match op with
  | .shl => some (.int k (k.wrap (x * 2 ^ (min y.toNat k.bits))))
  | .shr => some (.int k (x.fdiv (2 ^ (min y.toNat k.bits))))
  | _ => none
def AV.plain : AV → AV → Option Bool
  | .int k a, .int k' b => if k = k' then some (decide (a = b)) else none
  | _, _ => none
/-- Structs whose fields are whole numbers. -/
def eqCells : List AV → List AV → Option Bool
  | [], [] => some true
  | a :: as, b :: bs => match a.plain b, eqCells as bs with
    | some x, some y => some (x && y)
    | _, _ => none
  | _, _ => none
def plainFk (P : Program) (f : Field) (i : Nat) : Bool :=
  f.name != "_" && f.offset == i && (match P.underlying f.type with | some (.int _) => true | _ => false)
def plainFks (P : Program) : List Field → Nat → Bool
  | [], _ => true
  | f :: fs, i => plainFk P f i && plainFks P fs (i + 1)
/-- May structs of this type be compared cell by cell? -/
def _root_.Go.Program.eqPlain (P : Program) (t : TypeId) : Option Nat :=
  match P.underlying t with
  | some (.struct fs) => if plainFks P fs.toList 0 && !P.stoodInHeld t && !P.eqGuardType P.depth t then some fs.size else none
  | _ => none
def binA (P : Program) (op : BinOp) (t : TypeId) (x y : AV) : Option AV :=
  match op, x, y with
  | .shl, .int k a, .int _ b => shiftA .shl k a b
  | .shr, .int k a, .int _ b => shiftA .shr k a b
  | op, .int k a, .int k' b => if k = k' then intBin op k a b else none
  | .add, .str a, .str b => if a.length + b.length ≤ 9223372036854775807 then some (.str (a ++ b)) else none
  | .eql, .str a, .str b => some (.bool (decide (a = b)))
  | .neq, .str a, .str b => some (.bool (!decide (a = b)))
  | .eql, .bool a, .bool b => match P.tk t with | .bool => some (.bool (decide (a = b))) | _ => none
  | .neq, .bool a, .bool b => match P.tk t with | .bool => some (.bool (!decide (a = b))) | _ => none
  | .eql, .agg a, .agg b => if P.eqPlain t = some a.length then (eqCells a b).map .bool else none
  | .neq, .agg a, .agg b => if P.eqPlain t = some a.length then (eqCells a b).map fun r => .bool (!r) else none
  | .eql, .slice b _ _ _ _, .slice none _ _ _ _ => match P.tk t with | .slice _ _ => some (.bool b.isNone) | _ => none
  | .neq, .slice b _ _ _ _, .slice none _ _ _ _ => match P.tk t with | .slice _ _ => some (.bool b.isSome) | _ => none
  | .eql, .lst _ _ _ (_ :: _), .slice none _ _ _ _ => match P.tk t with | .slice _ _ => some (.bool false) | _ => none
  | .neq, .lst _ _ _ (_ :: _), .slice none _ _ _ _ => match P.tk t with | .slice _ _ => some (.bool true) | _ => none
  | _, _, _ => none

theorem VR_int {σ : Sig} {k : IntKind} {n : Int} {v : Value} : VR σ (.int k n) v ↔ v = .int k n := by simp [VR]
theorem VR_bool {σ : Sig} {b : Bool} {v : Value} : VR σ (.bool b) v ↔ v = .bool b := by simp [VR]
theorem VR_str {σ : Sig} {s : List UInt8} {v : Value} : VR σ (.str s) v ↔ v = .string ⟨s.toArray⟩ := by simp [VR]

theorem intBin_run {P : Program} {op : BinOp} {k : IntKind} {x y : Int} {r : AV} (t : TypeId) (h : intBin op k x y = some r) (hs : op ≠ .shl) (hs' : op ≠ .shr) (w : World) (σ : Sig) :
    ∃ v, (binOp op t (.int k x) (.int k y)).run P w = .ok v w ∧ VR σ r v := by
  cases op <;> simp only [intBin] at h <;> first
    | (cases h; done)
    | (cases h; refine ⟨_, by simp [binOp, Op.intArith, Op.intCmp, intBits_and, intBits_or, intBits_xor, intBits_andNot]; rfl, ?_⟩; simp [VR, bne, BEq.beq]; done)
    | (split at h
       · cases h
       · rename_i hy; cases h; refine ⟨_, by simp [binOp, Op.intDiv, hy]; rfl, ?_⟩; simp [VR])
    | exact absurd rfl hs
    | exact absurd rfl hs'
end Go.Abs
