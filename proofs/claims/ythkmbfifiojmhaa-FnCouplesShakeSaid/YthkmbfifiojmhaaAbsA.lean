/- Values and memory told without capacities and draws, and how they stand to a world of the machine. -/
import Derived.Orders
import Derived.Below
import Derived.Laws.Append
namespace Go.Abs
open Go.RowKit

/-- A value, slices by an own number of their row; a capacity only where it is known. A `lst` is a slice whose cells no one will write again,
told with what it holds; its number, if it has one, is the right to write behind it. A `fptr` points to such cells. -/
inductive AV where
  | bool (b : Bool)
  | int (k : IntKind) (n : Int)
  | str (s : List UInt8)
  | ptr (b : Option Nat) (off : Nat)
  | slice (b : Option Nat) (off len sz : Nat) (cap : Option Nat)
  | map (b : Option Nat)
  | func (fn : Fn) (first captured : List AV)
  | nilFunc
  | nilIface
  | lst (tk : Option Nat) (len sz : Nat) (cs : List AV)
  | fptr (cs : List AV)
  | agg (cs : List AV)
  | tuple (vs : List AV)
  | undef

instance : Inhabited AV := ⟨.undef⟩
inductive AObj where
  | cells (cs : List AV) (wr : Bool)
  | tail
  | map (es : List (AV × AV))

instance : Inhabited AObj := ⟨.map []⟩
structure Heap where
  n : Nat
  get : Nat → Option AObj

/-- Where a row lies: block, first cell, the end of what is its own. -/
abbrev Place := Nat × Nat × Nat
/-- What no one will write again: a cell with what it holds; a whole block. -/
inductive CI where
  | at (u : Value)
  | all (o : Obj)
structure Sig where
  m : Nat → Option Place
  fr : Nat → Nat → CI → Prop
instance : CoeFun Sig fun _ => Nat → Option Place := ⟨Sig.m⟩
/-- Cells from here on that no one will write again. -/
def FrAt (σ : Sig) (a : Option Addr) (vs : List Value) : Prop := ∀ (j : Nat) u, vs[j]? = some u → ∃ g o ci, a = some ⟨g, o, none⟩ ∧ ci = CI.at u ∧ σ.fr g (o + j) ci

mutual
def VR (σ : Sig) : AV → Value → Prop
  | .bool b, v => v = .bool b
  | .int k n, v => v = .int k n
  | .str s, v => v = .string ⟨s.toArray⟩
  | .ptr none _, v => v = .pointer none
  | .ptr (some b) off, v => ∃ g k e, σ b = some (g, k, e) ∧ v = .pointer (some ⟨g, k + off, none⟩)
  | .slice none _ len _ cap, v => len = 0 ∧ cap = some 0 ∧ v = .slice none 0 0
  | .slice (some b) off len sz cap, v => ∃ g k e o c, σ b = some (g, k, e) ∧ v = .slice (some ⟨g, o, none⟩) len c ∧ len ≤ c ∧
      (0 < c → o = k + off ∧ k + off + c * sz ≤ e) ∧ (∀ c', cap = some c' → c = c')
  | .map none, v => v = .map none
  | .map (some b), v => ∃ g k e, σ b = some (g, k, e) ∧ v = .map (some g)
  | .func fn fs cs, v => ∃ fs' cs', v = .func fn fs' cs' ∧ VRs σ fs fs'.toList ∧ VRs σ cs cs'.toList
  | .nilFunc, v => v = .nilFunc
  | .nilIface, v => v = .nilIface
  | .lst tk len sz cs, v => ∃ a c vs, v = .slice a len c ∧ len ≤ c ∧ cs.length = len * sz ∧ VRs σ cs vs ∧ FrAt σ a vs ∧
      ∀ b, tk = some b → ∃ g o, a = some ⟨g, o, none⟩ ∧ σ b = some (g, o + len * sz, o + c * sz)
  | .fptr cs, v => ∃ g o vs, v = .pointer (some ⟨g, o, none⟩) ∧ VRs σ cs vs ∧ FrAt σ (some ⟨g, o, none⟩) vs
  | .agg cs, v => ∃ cs', v = .agg cs' ∧ VRs σ cs cs'.toList
  | .tuple cs, v => ∃ cs', v = .tuple cs' ∧ VRs σ cs cs'.toList
  | .undef, _ => True
def VRs (σ : Sig) : List AV → List Value → Prop
  | [], [] => True
  | a :: as, v :: vs => VR σ a v ∧ VRs σ as vs
  | _, _ => False
end

structure Sig.le (σ τ : Sig) : Prop where
  m : ∀ b x, σ b = some x → τ b = some x
  fr : ∀ g i ci, σ.fr g i ci → τ.fr g i ci
theorem Sig.le_refl (σ : Sig) : Sig.le σ σ := ⟨fun _ _ h => h, fun _ _ _ h => h⟩
theorem Sig.le_trans {σ τ υ : Sig} (h : Sig.le σ τ) (h' : Sig.le τ υ) : Sig.le σ υ := ⟨fun b x hb => h'.m b x (h.m b x hb), fun g i ci hi => h'.fr g i ci (h.fr g i ci hi)⟩
theorem FrAt.mono {σ τ : Sig} (h : Sig.le σ τ) {a : Option Addr} {vs : List Value} (hf : FrAt σ a vs) : FrAt τ a vs := fun j u hj => by
  obtain ⟨g, o, ci, h1, h2, h3⟩ := hf j u hj
  exact ⟨g, o, ci, h1, h2, h.fr _ _ _ h3⟩

mutual
theorem VR.mono {σ τ : Sig} (h : Sig.le σ τ) : ∀ (a : AV) (v : Value), VR σ a v → VR τ a v
  | .bool _, _, hv => hv
  | .int _ _, _, hv => hv
  | .str _, _, hv => hv
  | .ptr none _, _, hv => hv
  | .ptr (some b) off, v, hv => by
    simp only [VR] at hv ⊢
    obtain ⟨g, k, e, hs, rfl⟩ := hv
    exact ⟨g, k, e, h.m _ _ hs, rfl⟩
  | .slice none _ _ _ _, _, hv => hv
  | .slice (some b) off len sz cap, v, hv => by
    simp only [VR] at hv ⊢
    obtain ⟨g, k, e, o, c, hs, hr⟩ := hv
    exact ⟨g, k, e, o, c, h.m _ _ hs, hr⟩
  | .map none, _, hv => hv
  | .map (some b), v, hv => by
    simp only [VR] at hv ⊢
    obtain ⟨g, k, e, hs, rfl⟩ := hv
    exact ⟨g, k, e, h.m _ _ hs, rfl⟩
  | .func fn fs cs, v, hv => by
    simp only [VR] at hv ⊢
    obtain ⟨fs', cs', rfl, h1, h2⟩ := hv
    exact ⟨fs', cs', rfl, VRs.mono h fs _ h1, VRs.mono h cs _ h2⟩
  | .nilFunc, _, hv => hv
  | .nilIface, _, hv => hv
  | .lst tk len sz cs, v, hv => by
    simp only [VR] at hv ⊢
    obtain ⟨a, c, vs, rfl, h1, h2, h3, h4, h5⟩ := hv
    refine ⟨a, c, vs, rfl, h1, h2, VRs.mono h cs vs h3, h4.mono h, fun b hb => ?_⟩
    obtain ⟨g, o, h6, h7⟩ := h5 b hb
    exact ⟨g, o, h6, h.m _ _ h7⟩
  | .fptr cs, v, hv => by
    simp only [VR] at hv ⊢
    obtain ⟨g, o, vs, rfl, h3, h4⟩ := hv
    exact ⟨g, o, vs, rfl, VRs.mono h cs vs h3, h4.mono h⟩
  | .agg cs, v, hv => by
    simp only [VR] at hv ⊢
    obtain ⟨cs', rfl, h1⟩ := hv
    exact ⟨cs', rfl, VRs.mono h cs _ h1⟩
  | .tuple cs, v, hv => by
    simp only [VR] at hv ⊢
    obtain ⟨cs', rfl, h1⟩ := hv
    exact ⟨cs', rfl, VRs.mono h cs _ h1⟩
  | .undef, _, _ => by simp only [VR]
theorem VRs.mono {σ τ : Sig} (h : Sig.le σ τ) : ∀ (as : List AV) (vs : List Value), VRs σ as vs → VRs τ as vs
  | [], [], _ => by simp only [VRs]
  | a :: as, v :: vs, hv => by
    simp only [VRs] at hv ⊢
    exact ⟨VR.mono h a v hv.1, VRs.mono h as vs hv.2⟩
  | [], _ :: _, hv => by simp only [VRs] at hv
  | _ :: _, [], hv => by simp only [VRs] at hv
end

theorem VRs.length {σ : Sig} : ∀ {as : List AV} {vs : List Value}, VRs σ as vs → as.length = vs.length
  | [], [], _ => rfl
  | a :: as, v :: vs, h => by simp only [VRs] at h; simp [VRs.length h.2]
  | [], _ :: _, h => by simp only [VRs] at h
  | _ :: _, [], h => by simp only [VRs] at h
theorem VRs.get {σ : Sig} : ∀ {as : List AV} {vs : List Value}, VRs σ as vs → ∀ {i : Nat} {a : AV}, as[i]? = some a → ∃ v, vs[i]? = some v ∧ VR σ a v
  | [], [], _, i, a, h => by simp at h
  | a :: as, v :: vs, h, 0, x, hx => by
    simp only [VRs] at h
    simp at hx; subst hx
    exact ⟨v, rfl, h.1⟩
  | a :: as, v :: vs, h, i + 1, x, hx => by
    simp only [VRs] at h
    simp at hx
    obtain ⟨u, h1, h2⟩ := VRs.get h.2 hx
    exact ⟨u, by simpa using h1, h2⟩
  | [], _ :: _, h, _, _, _ => by simp only [VRs] at h
  | _ :: _, [], h, _, _, _ => by simp only [VRs] at h
theorem VRs.append {σ : Sig} : ∀ {as bs : List AV} {vs us : List Value}, VRs σ as vs → VRs σ bs us → VRs σ (as ++ bs) (vs ++ us)
  | [], _, [], _, _, h => h
  | a :: as, bs, v :: vs, us, h, h' => by
    simp only [VRs] at h
    simp only [List.cons_append, VRs]
    exact ⟨h.1, VRs.append h.2 h'⟩
  | [], _, _ :: _, _, h, _ => by simp only [VRs] at h
  | _ :: _, _, [], _, h, _ => by simp only [VRs] at h
theorem VRs.of_get {σ : Sig} : ∀ {as : List AV} {vs : List Value}, as.length = vs.length → (∀ (i : Nat) a v, as[i]? = some a → vs[i]? = some v → VR σ a v) → VRs σ as vs
  | [], [], _, _ => by simp only [VRs]
  | a :: as, v :: vs, hl, h => by
    simp only [VRs]
    exact ⟨h 0 a v rfl rfl, VRs.of_get (by simpa using hl) fun i a' v' h1 h2 => h (i + 1) a' v' (by simpa using h1) (by simpa using h2)⟩
  | [], _ :: _, hl, _ => by simp at hl
  | _ :: _, [], hl, _ => by simp at hl
theorem VRs.get2 {σ : Sig} {as : List AV} {vs : List Value} (h : VRs σ as vs) {i : Nat} {a : AV} {v : Value} (ha : as[i]? = some a) (hv : vs[i]? = some v) : VR σ a v := by
  obtain ⟨u, hu, hr⟩ := h.get ha
  rw [hv] at hu; cases hu; exact hr
theorem VRs.replicate {σ : Sig} {a : AV} {v : Value} (h : VR σ a v) : ∀ n, VRs σ (List.replicate n a) (List.replicate n v)
  | 0 => by simp only [List.replicate, VRs]
  | n + 1 => by simp only [List.replicate, VRs]; exact ⟨h, VRs.replicate h n⟩
theorem VRs.take {σ : Sig} {as : List AV} {vs : List Value} (h : VRs σ as vs) (n : Nat) : VRs σ (as.take n) (vs.take n) :=
  VRs.of_get (by simp [h.length]) fun i a v h1 h2 => by
    rw [List.getElem?_take] at h1 h2
    split at h1
    · rename_i hi; rw [if_pos hi] at h2; exact h.get2 h1 h2
    · cases h1
theorem VRs.drop {σ : Sig} {as : List AV} {vs : List Value} (h : VRs σ as vs) (n : Nat) : VRs σ (as.drop n) (vs.drop n) :=
  VRs.of_get (by simp [h.length]) fun i a v h1 h2 => by
    rw [List.getElem?_drop] at h1 h2; exact h.get2 h1 h2
theorem VRs.map {σ : Sig} {α : Type} (f : α → AV) (g : α → Value) (h : ∀ x, VR σ (f x) (g x)) : ∀ l : List α, VRs σ (l.map f) (l.map g)
  | [] => by simp only [List.map, VRs]
  | x :: l => by simp only [List.map, VRs]; exact ⟨h x, VRs.map f g h l⟩

/-- What one cell may hold. -/
def AV.one : AV → Bool
  | .agg _ | .tuple _ | .undef => false
  | _ => true
theorem VR.one {σ : Sig} {a : AV} {v : Value} (h : VR σ a v) (ho : a.one = true) : v.oneCell' = true := by
  cases a with
  | bool _ => simp only [VR] at h; subst h; rfl
  | int _ _ => simp only [VR] at h; subst h; rfl
  | str _ => simp only [VR] at h; subst h; rfl
  | ptr b _ => cases b with
    | none => simp only [VR] at h; subst h; rfl
    | some _ => simp only [VR] at h; obtain ⟨_, _, _, _, rfl⟩ := h; rfl
  | slice b _ _ _ _ => cases b with
    | none => simp only [VR] at h; obtain ⟨_, _, rfl⟩ := h; rfl
    | some _ => simp only [VR] at h; obtain ⟨_, _, _, _, _, _, rfl, _⟩ := h; rfl
  | map b => cases b with
    | none => simp only [VR] at h; subst h; rfl
    | some _ => simp only [VR] at h; obtain ⟨_, _, _, _, rfl⟩ := h; rfl
  | func _ _ _ => simp only [VR] at h; obtain ⟨_, _, rfl, _, _⟩ := h; rfl
  | nilFunc => simp only [VR] at h; subst h; rfl
  | nilIface => simp only [VR] at h; subst h; rfl
  | lst _ _ _ _ => simp only [VR] at h; obtain ⟨_, _, _, rfl, _⟩ := h; rfl
  | fptr _ => simp only [VR] at h; obtain ⟨_, _, _, rfl, _⟩ := h; rfl
  | agg _ => simp [AV.one] at ho
  | tuple _ => simp [AV.one] at ho
  | undef => simp [AV.one] at ho

/-- The cells of a value. -/
def AV.cells : AV → List AV
  | .agg cs => cs
  | a => [a]
theorem VR.cells {σ : Sig} {a : AV} {v : Value} (h : VR σ a v) (hc : a.cells.all AV.one = true) : VRs σ a.cells v.cells.toList := by
  cases a with
  | agg cs =>
    simp only [VR] at h
    obtain ⟨cs', rfl, h1⟩ := h
    exact h1
  | tuple _ => simp [AV.cells, AV.one] at hc
  | undef => simp [AV.cells, AV.one] at hc
  | _ =>
    have ho := h.one (by simpa [AV.cells] using hc)
    have : v.cells.toList = [v] := by cases v <;> simp_all [Value.cells, Value.oneCell']
    rw [this]
    simp only [AV.cells, VRs]
    exact ⟨h, trivial⟩

/-! ### The heap -/
def Heap.alloc (H : Heap) (cs : List AV) : Heap := ⟨H.n + 1, fun b => if b = H.n then some (.cells cs true) else H.get b⟩
def Heap.kill (H : Heap) (b : Nat) : Heap := ⟨H.n, fun c => if c = b then none else H.get c⟩
def Heap.put (H : Heap) (b : Nat) (cs : List AV) : Heap := ⟨H.n, fun c => if c = b then some (.cells cs true) else H.get c⟩
def Heap.allocT (H : Heap) : Heap := ⟨H.n + 1, fun b => if b = H.n then some .tail else H.get b⟩
def Heap.allocMap (H : Heap) (es : List (AV × AV)) : Heap := ⟨H.n + 1, fun b => if b = H.n then some (.map es) else H.get b⟩
def Heap.putMap (H : Heap) (b : Nat) (es : List (AV × AV)) : Heap := ⟨H.n, fun c => if c = b then some (.map es) else H.get c⟩

/-- A row of cells of the machine, as told. -/
structure RowAt (σ : Sig) (B0 : Nat) (w : World) (p : Place) (cs : List AV) (wr : Bool) : Prop where
  row : ∃ (C : Array Value) (t : TypeId) (f : Nat × Nat), w.heap[p.1]? = some (.cells C t f) ∧ p.2.1 + cs.length ≤ p.2.2 ∧ p.2.2 ≤ C.size ∧
    VRs σ cs ((C.toList.drop p.2.1).take cs.length) ∧ (wr = true → B0 ≤ p.1 ∧ ∀ j, p.2.1 ≤ j → j < p.2.2 → ¬ (f.1 ≤ j ∧ j < f.2))

/-- Cells behind a slice that one alone may write. -/
structure TailAt (B0 : Nat) (w : World) (p : Place) : Prop where
  tl : ∃ (C : Array Value) (t : TypeId) (f : Nat × Nat), w.heap[p.1]? = some (.cells C t f) ∧ p.2.2 ≤ C.size ∧ B0 ≤ p.1 ∧ ∀ j, p.2.1 ≤ j → j < p.2.2 → ¬ (f.1 ≤ j ∧ j < f.2)

structure MapAt (σ : Sig) (B0 : Nat) (w : World) (p : Place) (es : List (AV × AV)) : Prop where
  ent : ∃ (E : Array MapEntry) (clock : Nat), w.heap[p.1]? = some (.map E clock) ∧ B0 ≤ p.1 ∧
    VRs σ (es.map (·.1)) (E.toList.map (·.key)) ∧ VRs σ (es.map (·.2)) (E.toList.map (·.val))

def AObj.wr : AObj → Bool
  | .cells _ w => w
  | .tail => true
  | .map _ => true
def AObj.isTail : AObj → Bool
  | .tail => true
  | _ => false

def ObjAt (σ : Sig) (B0 : Nat) (w : World) (p : Place) : AObj → Prop
  | .cells cs wr => RowAt σ B0 w p cs wr
  | .tail => TailAt B0 w p
  | .map es => MapAt σ B0 w p es
def World.cellIs (w : World) (g i : Nat) : CI → Prop
  | .at u => ∃ C t f, w.heap[g]? = some (.cells C t f) ∧ C[i]? = some u
  | .all o => w.heap[g]? = some o

/-- The machine's world as told: of the first world w0 nothing has turned. -/
structure Sim (w0 : World) (σ : Sig) (H : Heap) (w : World) : Prop where
  below : Below w0.heap.size w0 w
  dom : ∀ b x, σ b = some x → b < H.n
  obj : ∀ b o, H.get b = some o → ∃ p, σ b = some p ∧ ObjAt σ w0.heap.size w p o
  sep : ∀ b b' o o' p p', b ≠ b' → H.get b = some o → H.get b' = some o' → o.wr = true → σ b = some p → σ b' = some p' → p.1 ≠ p'.1
  fz : ∀ g i ci, σ.fr g i ci → World.cellIs w g i ci
  own : ∀ b o p, H.get b = some o → o.wr = true → σ b = some p → ∀ i ci, σ.fr p.1 i ci → o.isTail = true ∧ i < p.2.1 ∧ ∃ u, ci = .at u

theorem Sim.lt {w0 : World} {σ : Sig} {H : Heap} {w : World} (h : Sim w0 σ H w) {b : Nat} {o : AObj} (hb : H.get b = some o) : b < H.n := by
  obtain ⟨p, hp, _⟩ := h.obj b o hb
  exact h.dom b p hp
theorem World.cellIs.lt {w : World} {g i : Nat} {ci : CI} (h : World.cellIs w g i ci) : g < w.heap.size := by
  cases ci with
  | «at» u =>
    obtain ⟨C, t, f, h1, _⟩ := h
    exact (Array.getElem?_eq_some_iff.1 h1).1
  | all o => exact (Array.getElem?_eq_some_iff.1 (show w.heap[g]? = some o from h)).1
theorem World.cellIs.mono {w w' : World} {g i : Nat} {ci : CI} (h : World.cellIs w g i ci) (hw : w'.heap[g]? = w.heap[g]?) : World.cellIs w' g i ci := by
  cases ci with
  | «at» u =>
    obtain ⟨C, t, f, h1, h2⟩ := h
    exact ⟨C, t, f, hw.trans h1, h2⟩
  | all o => exact hw.trans h

theorem RowAt.mono {σ τ : Sig} {B0 : Nat} {w w' : World} {p : Place} {cs : List AV} {wr : Bool} (h : RowAt σ B0 w p cs wr) (hs : Sig.le σ τ) (hw : w'.heap[p.1]? = w.heap[p.1]?) : RowAt τ B0 w' p cs wr := by
  obtain ⟨C, t, f, h1, h2, h3, h4, h5⟩ := h.row
  exact ⟨C, t, f, hw.trans h1, h2, h3, VRs.mono hs _ _ h4, h5⟩
theorem TailAt.mono {B0 : Nat} {w w' : World} {p : Place} (h : TailAt B0 w p) (hw : w'.heap[p.1]? = w.heap[p.1]?) : TailAt B0 w' p := by
  obtain ⟨C, t, f, h1, h2⟩ := h.tl
  exact ⟨C, t, f, hw.trans h1, h2⟩
theorem MapAt.mono {σ τ : Sig} {B0 : Nat} {w w' : World} {p : Place} {es : List (AV × AV)} (h : MapAt σ B0 w p es) (hs : Sig.le σ τ) (hw : w'.heap[p.1]? = w.heap[p.1]?) : MapAt τ B0 w' p es := by
  obtain ⟨E, c, h1, h2, h3, h4⟩ := h.ent
  exact ⟨E, c, hw.trans h1, h2, VRs.mono hs _ _ h3, VRs.mono hs _ _ h4⟩
theorem ObjAt.mono {σ τ : Sig} {B0 : Nat} {w w' : World} {p : Place} {o : AObj} (h : ObjAt σ B0 w p o) (hs : Sig.le σ τ) (hw : w'.heap[p.1]? = w.heap[p.1]?) : ObjAt τ B0 w' p o := by
  cases o with
  | cells cs wr => exact RowAt.mono h hs hw
  | tail => exact TailAt.mono h hw
  | map es => exact MapAt.mono h hs hw
theorem ObjAt.lt {σ : Sig} {B0 : Nat} {w : World} {p : Place} {o : AObj} (h : ObjAt σ B0 w p o) : p.1 < w.heap.size := by
  cases o with
  | cells cs wr =>
    obtain ⟨C, t, f, h1, _⟩ := h.row
    exact (Array.getElem?_eq_some_iff.1 h1).1
  | tail =>
    obtain ⟨C, t, f, h1, _⟩ := TailAt.tl h
    exact (Array.getElem?_eq_some_iff.1 h1).1
  | map es =>
    obtain ⟨E, c, h1, _⟩ := h.ent
    exact (Array.getElem?_eq_some_iff.1 h1).1
theorem ObjAt.base {σ : Sig} {B0 : Nat} {w : World} {p : Place} {o : AObj} (h : ObjAt σ B0 w p o) (hw : o.wr = true) : B0 ≤ p.1 := by
  cases o with
  | cells cs wr =>
    obtain ⟨C, t, f, h1, _, _, _, h5⟩ := h.row
    exact (h5 hw).1
  | tail =>
    obtain ⟨C, t, f, h1, _, h2, _⟩ := TailAt.tl h
    exact h2
  | map es =>
    obtain ⟨E, c, h1, h2, _⟩ := h.ent
    exact h2
theorem Sim.drew {w0 : World} {σ : Sig} {H : Heap} {w : World} (h : Sim w0 σ H w) : Sim w0 σ H w.drew :=
  ⟨h.below.drew, h.dom, fun b o hb => by
    obtain ⟨p, hp, ho⟩ := h.obj b o hb
    exact ⟨p, hp, ho.mono (Sig.le_refl _) rfl⟩, h.sep, fun g i ci hi => (h.fz g i ci hi).mono rfl, h.own⟩

def Sig.upd (σ : Sig) (b : Nat) (p : Place) : Sig := { σ with m := fun c => if c = b then some p else σ c }
theorem Sig.le_upd {w0 : World} {σ : Sig} {H : Heap} {w : World} (h : Sim w0 σ H w) (p : Place) : Sig.le σ (σ.upd H.n p) := ⟨fun b x hb => by
  have := h.dom b x hb
  simp only [Sig.upd]
  rw [if_neg (by omega)]
  exact hb, fun _ _ _ h => h⟩
/-- Frozen cells added, none of them in a block that one alone may write. -/
def Sig.add (σ : Sig) (Q : Nat → Nat → CI → Prop) : Sig := { σ with fr := fun g i ci => σ.fr g i ci ∨ Q g i ci }
theorem Sig.le_add (σ : Sig) (Q : Nat → Nat → CI → Prop) : Sig.le σ (σ.add Q) := ⟨fun _ _ h => h, fun _ _ _ h => .inl h⟩

theorem Sim.later {w0 : World} {σ : Sig} {H : Heap} {w w' : World} (hS : Sim w0 σ H w) (hb : Below w.heap.size w w') : Sim w0 σ H w' := by
  have hsz := hS.below.size
  refine ⟨⟨hb.os.trans hS.below.os, hb.tape.trans hS.below.tape, hb.output.trans hS.below.output, Nat.le_trans hsz hb.size, fun k hk => (hb.block k (by omega)).trans (hS.below.block k hk)⟩, hS.dom, fun b o h => ?_, hS.sep, fun g i ci hi => (hS.fz g i ci hi).mono (hb.block _ (hS.fz g i ci hi).lt), hS.own⟩
  obtain ⟨p, hp, ho⟩ := hS.obj b o h
  exact ⟨p, hp, ho.mono (Sig.le_refl _) (hb.block _ ho.lt)⟩
/-- A new block of the machine that comes to a new row. -/
theorem Sim.allocO {w0 : World} {σ : Sig} {H H' : Heap} {w : World} (h : Sim w0 σ H w) (C : Array Value) (t : TypeId) (o0 : AObj) (s e0 : Nat) (hn : H'.n = H.n + 1) (hg : ∀ b, H'.get b = if b = H.n then some o0 else H.get b)
    (hr : ObjAt (σ.upd H.n (w.heap.size, s, e0)) w0.heap.size (w.alloc (.cells C t)) (w.heap.size, s, e0) o0) :
    Sim w0 (σ.upd H.n (w.heap.size, s, e0)) H' (w.alloc (.cells C t)) := by
  have hle := Sig.le_upd h (w.heap.size, s, e0)
  refine ⟨h.below.alloc h.below.size _, fun b x hb => ?_, fun b o hb => ?_, fun b b' o o' p p' hne hb hb' hw hp hp' => ?_, fun g i ci hi => ?_, fun b o p hb hw hp i ci hi => ?_⟩
  · simp only [Sig.upd] at hb
    rw [hn]
    split at hb
    · omega
    · have := h.dom b x hb; omega
  · rw [hg] at hb
    by_cases e : b = H.n
    · rw [if_pos e] at hb
      cases hb
      exact ⟨(w.heap.size, s, e0), by simp [Sig.upd, e], hr⟩
    · rw [if_neg e] at hb
      obtain ⟨p, hp, ho⟩ := h.obj b o hb
      exact ⟨p, hle.m _ _ hp, ho.mono hle (Below.heap_alloc _ _ _ ho.lt)⟩
  · rw [hg] at hb hb'
    simp only [Sig.upd] at hp hp'
    by_cases e : b = H.n
    · have e' : b' ≠ H.n := fun x => hne (e.trans x.symm)
      rw [if_pos e] at hp; rw [if_neg e'] at hp' hb'
      cases hp
      obtain ⟨p1, hp1, ho1⟩ := h.obj b' o' hb'
      rw [hp'] at hp1; cases hp1
      have := ho1.lt
      show w.heap.size ≠ p'.1
      omega
    · rw [if_neg e] at hb hp
      by_cases e' : b' = H.n
      · rw [if_pos e'] at hp'
        cases hp'
        obtain ⟨p1, hp1, ho1⟩ := h.obj b o hb
        rw [hp] at hp1; cases hp1
        have := ho1.lt
        show p.1 ≠ w.heap.size
        omega
      · rw [if_neg e'] at hb' hp'
        exact h.sep b b' o o' p p' hne hb hb' hw hp hp'
  · have hi' : σ.fr g i ci := hi
    have := h.fz g i ci hi'
    exact this.mono (Below.heap_alloc _ _ _ this.lt)
  · have hi' : σ.fr p.1 i ci := hi
    rw [hg] at hb
    simp only [Sig.upd] at hp
    by_cases e : b = H.n
    · rw [if_pos e] at hp
      cases hp
      have := (h.fz _ _ _ hi').lt
      simp at this
    · rw [if_neg e] at hb hp
      exact h.own b o p hb hw hp i ci hi'
theorem Sim.alloc {w0 : World} {σ : Sig} {H : Heap} {w : World} (h : Sim w0 σ H w) (C : Array Value) (t : TypeId) (cs : List AV) (hl : cs.length ≤ C.size) (hr : VRs σ cs (C.toList.take cs.length)) :
    Sim w0 (σ.upd H.n (w.heap.size, 0, C.size)) (H.alloc cs) (w.alloc (.cells C t)) := by
  refine h.allocO C t (.cells cs true) 0 C.size rfl (fun b => rfl) ⟨C, t, (0, 0), by show (w.heap.push _)[w.heap.size]? = _; simp, by simpa using hl, Nat.le_refl _, ?_, fun _ => ⟨h.below.size, fun j _ _ => by omega⟩⟩
  simpa using VRs.mono (Sig.le_upd h _) _ _ hr

theorem Sim.fewer {w0 : World} {σ : Sig} {H H' : Heap} {w : World} (h : Sim w0 σ H w) (hn : H'.n = H.n) (hg : ∀ b o, H'.get b = some o → H.get b = some o) : Sim w0 σ H' w :=
  ⟨h.below, by rw [hn]; exact h.dom, fun c o hc => h.obj c o (hg _ _ hc), fun c c' o o' p p' hne hc hc' => h.sep c c' o o' p p' hne (hg _ _ hc) (hg _ _ hc'), h.fz, fun b o p hb => h.own b o p (hg _ _ hb)⟩
theorem Sim.kill {w0 : World} {σ : Sig} {H : Heap} {w : World} (h : Sim w0 σ H w) (b : Nat) : Sim w0 σ (H.kill b) w :=
  h.fewer rfl fun c o hc => by
    simp only [Heap.kill] at hc
    split at hc
    · cases hc
    · exact hc
/-- More cells that no one will write. -/
theorem Sim.freeze {w0 : World} {σ : Sig} {H : Heap} {w : World} (h : Sim w0 σ H w) (Q : Nat → Nat → CI → Prop) (hQ : ∀ g i ci, Q g i ci → World.cellIs w g i ci)
    (ho : ∀ b o p, H.get b = some o → o.wr = true → σ b = some p → ∀ i ci, Q p.1 i ci → o.isTail = true ∧ i < p.2.1 ∧ ∃ u, ci = .at u) : Sim w0 (σ.add Q) H w :=
  ⟨h.below, h.dom, fun c o hc => by
    obtain ⟨p, hp, hob⟩ := h.obj c o hc
    exact ⟨p, hp, hob.mono (Sig.le_add _ _) rfl⟩, h.sep, fun g i ci hi => hi.elim (h.fz g i ci) (hQ g i ci), fun b o p hb hw hp i ci hi => hi.elim (h.own b o p hb hw hp i ci) (ho b o p hb hw hp i ci)⟩
end Go.Abs
