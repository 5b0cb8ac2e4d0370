/- Operations that make or write memory, and calls. -/
import Derived.Test.YthkmbfifiojmhaaAbsG
set_option linter.unusedSimpArgs false
set_option linter.unusedVariables false
namespace Go.Abs
open Go.RowKit

/-- A call of a function of the program: whatever world fits the heap, it returns, and K holds of what is told. -/
def ACall (P : Program) (w0 : World) (f : FuncId) (args : List AV) (H : Heap) (K : AV → Heap → Prop) : Prop :=
  ∀ σ w (args' : Array Value), Sim w0 σ H w → VRs σ args args'.toList →
    Calls P f args' w fun e w' => ∃ σ' v v' H', e = .returned v' ∧ Sig.le σ σ' ∧ Sim w0 σ' H' w' ∧ VR σ' v v' ∧ K v H'
theorem ACall.mono {P : Program} {w0 : World} {f : FuncId} {args : List AV} {H : Heap} {K K' : AV → Heap → Prop} (h : ACall P w0 f args H K) (hk : ∀ v H', K v H' → K' v H') : ACall P w0 f args H K' :=
  fun σ w args' hS ha => (h σ w args' hS ha).mono fun e w' ⟨σ', v, v', H', h1, h2, h3, h4, h5⟩ => ⟨σ', v, v', H', h1, h2, h3, h4, hk _ _ h5⟩

def _root_.Go.Program.plain (P : Program) (f : FuncId) : Bool :=
  match P.funcs[f]? with
  | some fn => fn.name != "runtime.NumGoroutine" && fn.body.isSome
  | none => false
def zerosA (zc : List AV) (n : Nat) : List AV := (List.range n).map fun i => zc.getD (i % zc.length) .undef

def storeA (P : Program) (t : TypeId) (x v : AV) (H : Heap) (K : AV → Heap → Prop) : Prop :=
  match P.szO t, x with
  | some s, .ptr (some b) off =>
    match H.get b with
    | some (.cells cs true) => v.cells.length = s ∧ v.cells.all AV.one = true ∧ off + s ≤ cs.length ∧ K .undef (H.put b (splice cs off v.cells))
    | _ => False
  | _, _ => False
def appendR (P : Program) (t u : TypeId) (s x : AV) (H : Heap) (K : AV → Heap → Prop) : Prop :=
  match P.tk t, P.tk u, s, x with
  | .slice e sz, .slice _ _, .slice b off len sz1 cap, .slice b2 off2 n sz2 _ =>
    (sz = sz1 ∨ b = none) ∧
    if n = 0 then K (.slice b off len sz1 cap) H else
    match P.bz e, rowA H b off (len * sz), rowA H b2 off2 (n * sz) with
    | some (bytes, z), some old, some new =>
      (absV z).cells.length = sz ∧ new.all AV.one = true ∧
      match cap with
      | some c =>
        if len + n ≤ c then
          match b with
          | some b => match H.get b with
            | some (.cells cs true) => off + (len + n) * sz ≤ cs.length ∧ K (.slice (some b) off (len + n) sz (some c)) (H.put b (splice cs (off + len * sz) new))
            | _ => False
          | none => False
        else (len + n) * bytes ≤ 140737488355328 ∧ len + n ≤ 140737488355328 ∧ K (.slice (some H.n) 0 (len + n) sz none) (H.alloc (old ++ new))
      | none =>
        match b with
        | some b => match H.get b with
          | some (.cells _ true) => (len + n) * bytes ≤ 140737488355328 ∧ len + n ≤ 140737488355328 ∧ K (.slice (some H.n) 0 (len + n) sz none) ((H.kill b).alloc (old ++ new))
          | _ => False
        | none => False
    | _, _, _ => False
  | _, _, _, _ => False
/-- A slice that may be written behind: its right to do so, its length, its cells. -/
def endOf : AV → Option (Option Nat × Nat × List AV × Nat)
  | .lst (some b) len sz cs => some (some b, len, cs, sz)
  | .slice none _ _ sz _ => some (none, 0, [], sz)
  | _ => none
def lenOf : AV → Option (Nat × Nat)
  | .slice _ _ len sz _ => some (len, sz)
  | .lst _ len sz _ => some (len, sz)
  | _ => none
def appendL (P : Program) (t u : TypeId) (s x : AV) (H : Heap) (K : AV → Heap → Prop) : Prop :=
  match P.tk t, P.tk u, endOf s, lenOf x with
  | .slice e sz, .slice _ _, some (tk, len, cs, sz1), some (n, sz2) =>
    if n = 0 then K s H else
    match P.bz e, cellsA H x (n * sz) with
    | some (bytes, z), some new =>
      (absV z).cells.length = sz ∧ new.all AV.one = true ∧ (len + n) * bytes ≤ 140737488355328 ∧ len + n ≤ 140737488355328 ∧ 0 < sz ∧ sz2 = sz ∧
      match tk with
      | some b => sz1 = sz ∧ H.get b = some .tail ∧ K (.lst (some H.n) (len + n) sz (cs ++ new)) (H.kill b).allocT
      | none => K (.lst (some H.n) n sz new) H.allocT
    | _, _ => False
  | _, _, _, _ => False
def appendA (P : Program) (t u : TypeId) (s x : AV) (H : Heap) (K : AV → Heap → Prop) : Prop := appendR P t u s x H K ∨ appendL P t u s x H K
def bytesOf : List AV → Option (List UInt8)
  | [] => some []
  | .int .u8 n :: r => (bytesOf r).map fun l => UInt8.ofNat n.toNat :: l
  | _ :: _ => none
def makeA (P : Program) (t : TypeId) (l c : AV) (H : Heap) (K : AV → Heap → Prop) : Prop :=
  match P.tk t, l, c with
  | .slice e s, .int _ n, .int _ m =>
    match P.bz e with
    | some (bytes, z) => 0 ≤ n ∧ n ≤ m ∧ m ≤ 281474976710656 ∧ bytes * m ≤ 281474976710656 ∧ (absV z).cells.length = s ∧ (K (.slice (some H.n) 0 n.toNat s (some m.toNat)) (H.alloc (zerosA (absV z).cells (m.toNat * s))) ∨ K (.lst (some H.n) n.toNat s (zerosA (absV z).cells (n.toNat * s))) H.allocT)
    | none => False
  | _, _, _ => False
def buildSliceA (P : Program) (t : TypeId) (len : Nat) (parts : List (Nat × AV)) (H : Heap) (K : AV → Heap → Prop) : Prop :=
  match P.tk t with
  | .slice e s =>
    match P.bz e with
    | some (_, z) =>
      len * s ≤ 16777216 ∧ (absV z).cells.length = s ∧
      match fillA (fun i => some (i * s, s)) (zerosA (absV z).cells (len * s)) parts with
      | some cs => K (.slice (some H.n) 0 len s (some len)) (H.alloc cs) ∨ K (.lst none len s cs) H ∨ K (.lst (some H.n) len s cs) H.allocT
      | none => False
    | none => False
  | _ => False
def copyA (P : Program) (t : TypeId) (d s : AV) (H : Heap) (K : AV → Heap → Prop) : Prop :=
  match P.tk t, d, s with
  | .slice e sz, .slice b off len sz1 _, s =>
    match lenOf s with
    | none => False
    | some (n, sz2) =>
    match cellsA H s (min n len * sz) with
    | some new =>
      new.all AV.one = true ∧ (sz2 = sz ∨ n = 0) ∧
      if min n len * sz = 0 then K (.int .i64 (min n len)) H else
      match b with
      | some b => match H.get b with
        | some (.cells cs true) => off + min n len * sz ≤ cs.length ∧ K (.int .i64 (min n len)) (H.put b (splice cs off new))
        | _ => False
      | none => False
    | none => False
  | _, _, _ => False
def clearA (P : Program) (t : TypeId) (d : AV) (H : Heap) (K : AV → Heap → Prop) : Prop :=
  match P.tk t, d with
  | .slice e sz, .slice b off len sz1 _ =>
    if len = 0 then K (.tuple []) H else
    match b, P.bz e with
    | some b, some (_, z) => match H.get b with
      | some (.cells cs true) => (absV z).cells.length = sz ∧ (absV z).cells.all AV.one = true ∧ off + len * sz ≤ cs.length ∧ K (.tuple []) (H.put b (splice cs off (zerosA (absV z).cells (len * sz))))
      | _ => False
    | _, _ => False
  | _, _ => False
def bytesStrA (P : Program) (src dst : TypeId) (x : AV) (H : Heap) (K : AV → Heap → Prop) : Prop :=
  match P.tk src, P.tk dst, x with
  | .slice e 1, .str, x =>
    match lenOf x with
    | none => False
    | some (len, sz) =>
    match P.tk e, (cellsA H x len).bind bytesOf with
    | .int .u8, some l => (sz = 1 ∨ len = 0) ∧ K (.str l) H
    | _, _ => False
  | _, _, _ => False
/-- A variable: a row, or, if no one will write it, cells told by what they hold. -/
def boxA (v : AV) (H : Heap) (K : AV → Heap → Prop) : Prop := v.cells.all AV.one = true ∧ (K (.ptr (some H.n) 0) (H.alloc v.cells) ∨ K (.fptr v.cells) H)
def effA (P : Program) (w0 : World) (ρ : Operand → AV) (op : Op) (H : Heap) (K : AV → Heap → Prop) : Prop :=
  match op with
  | .alloc t => match P.bz t with | some (_, z) => K (.ptr (some H.n) 0) (H.alloc (absV z).cells) | none => False
  | .box t x => boxA (ρ x) H K
  | .buildSlice t len parts => buildSliceA P t len (parts.toList.map fun p => (p.1, ρ p.2)) H K
  | .makeSlice t l c => makeA P t (ρ l) (ρ c) H K
  | .store t x v => storeA P t (ρ x) (ρ v) H K
  | .convert src dst x => bytesStrA P src dst (ρ x) H K
  | .call c =>
    match c.callee with
    | .value f =>
      match ρ f with
      | .func (.func g) first cap => P.plain g = true ∧ ACall P w0 g (first ++ c.args.toList.map ρ ++ cap) H K
      | _ => False
    | .builtin .append => match c.args.toList, c.argTypes.toList with | [s, x], [t, u] => appendA P t u (ρ s) (ρ x) H K | _, _ => False
    | .builtin .copy => match c.args.toList, c.argTypes.toList with | [d, s], t :: _ => copyA P t (ρ d) (ρ s) H K | _, _ => False
    | .builtin .clear => match c.args.toList, c.argTypes.toList with | [d], [t] => clearA P t (ρ d) H K | _, _ => False
    | _ => False
  | _ => False

section
variable {P : Program} {w0 : World} {σ : Sig} {H : Heap} {w : World} {K : AV → Heap → Prop}

/-- What an operation owes. -/
def Eff (P : Program) (w0 : World) (σ : Sig) (K : AV → Heap → Prop) (r : Result Value) : Prop :=
  ∃ v' w' σ' v H', r = .ok v' w' ∧ Sig.le σ σ' ∧ Sim w0 σ' H' w' ∧ VR σ' v v' ∧ K v H'

theorem absV_cells (z : Value) : VRs σ (absV z).cells z.cells.toList := by
  have hv := VR_absV σ z
  cases hz' : absV z with
  | agg cs => rw [hz'] at hv; simp only [VR] at hv; obtain ⟨cs', rfl, h1⟩ := hv; exact h1
  | _ =>
    rw [hz'] at hv
    have hl : z.cells = #[z] := by
      cases z <;> first | rfl | (simp [absV] at hz')
    rw [hl]; simp only [AV.cells, VRs]; exact ⟨hv, trivial⟩

theorem Sim.newRow (hS : Sim w0 σ H w) (C : Array Value) (t : TypeId) (cs : List AV) (hr : VRs σ cs C.toList) {off : Nat} (hk : K (.ptr (some H.n) 0) (H.alloc cs)) :
    Eff P w0 σ K (.ok (.pointer (some ⟨w.heap.size, 0, none⟩)) (w.alloc (.cells C t))) := by
  have hl := hr.length
  refine ⟨_, _, σ.upd H.n (w.heap.size, 0, C.size), _, _, rfl, Sig.le_upd hS _, hS.alloc C t cs (by simp at hl; omega) (by rw [hl]; simp only [Array.length_toList]; rw [List.take_of_length_le (by simp)]; exact hr), ?_, hk⟩
  simp only [VR]
  exact ⟨w.heap.size, 0, C.size, by simp [Sig.upd], rfl⟩

theorem Sim.newSlice (hS : Sim w0 σ H w) (C : Array Value) (t : TypeId) (cs : List AV) (hl : cs.length ≤ C.size) (hr : VRs σ cs (C.toList.take cs.length)) {n sz c : Nat} {cap : Option Nat} (hn : n ≤ c) (hc : c * sz ≤ C.size) (hcap : ∀ c', cap = some c' → c = c')
    (hk : K (.slice (some H.n) 0 n sz cap) (H.alloc cs)) :
    Eff P w0 σ K (.ok (.slice (some ⟨w.heap.size, 0, none⟩) n c) (w.alloc (.cells C t))) := by
  refine ⟨_, _, σ.upd H.n (w.heap.size, 0, C.size), _, _, rfl, Sig.le_upd hS _, hS.alloc C t cs hl hr, ?_, hk⟩
  simp only [VR]
  exact ⟨w.heap.size, 0, C.size, 0, c, by simp [Sig.upd], rfl, hn, fun _ => ⟨rfl, by omega⟩, hcap⟩

/-- A new block as a slice that no one writes, with or without the right to write behind it. -/
theorem Sim.newList (hS : Sim w0 σ H w) (C : Array Value) (t : TypeId) (cs : List AV) {n sz c : Nat} (hcs : cs.length = n * sz) (hr : VRs σ cs (C.toList.take cs.length)) (hn : n ≤ c) (hc : c * sz ≤ C.size)
    (hk : K (.lst none n sz cs) H ∨ K (.lst (some H.n) n sz cs) H.allocT) :
    Eff P w0 σ K (.ok (.slice (some ⟨w.heap.size, 0, none⟩) n c) (w.alloc (.cells C t))) := by
  have hmul : n * sz ≤ c * sz := Nat.mul_le_mul_right _ hn
  obtain ⟨Q, hQ⟩ : ∃ Q : Nat → Nat → CI → Prop, Q = fun g i ci => g = w.heap.size ∧ i < n * sz ∧ ∃ u, ci = .at u ∧ C[i]? = some u := ⟨_, rfl⟩
  have hnew : (w.alloc (.cells C t)).heap[w.heap.size]? = some (.cells C t (0, 0)) := by show (w.heap.push _)[w.heap.size]? = _; simp
  have hcell : ∀ g i ci, Q g i ci → World.cellIs (w.alloc (.cells C t)) g i ci := by
    intro g i ci h
    rw [hQ] at h
    obtain ⟨rfl, h1, u, rfl, h2⟩ := h
    exact ⟨C, _, _, hnew, h2⟩
  have hf : ∀ τ : Sig, FrAt (τ.add Q) (some ⟨w.heap.size, 0, none⟩) (C.toList.take cs.length) := by
    intro τ j u hj
    rw [List.getElem?_take] at hj
    split at hj
    · rename_i hlt
      refine ⟨_, _, .at u, rfl, rfl, .inr ?_⟩
      rw [hQ]
      exact ⟨rfl, by omega, u, rfl, by simpa using hj⟩
    · cases hj
  rcases hk with hk | hk
  · have hS1 := hS.later (w' := w.alloc (.cells C t)) (Below.alloc (Below.refl _ _) (Nat.le_refl _) _)
    refine ⟨_, _, σ.add Q, _, _, rfl, Sig.le_add _ _, hS1.freeze Q hcell fun b o p hb hw hp i ci hq => ?_, ?_, hk⟩
    · exfalso
      obtain ⟨p', hp', ho⟩ := hS.obj b o hb
      rw [hp] at hp'; cases hp'
      rw [hQ] at hq
      have := ho.lt
      omega
    · simp only [VR]
      exact ⟨_, _, C.toList.take cs.length, rfl, hn, hcs, VRs.mono (Sig.le_add _ _) _ _ hr, hf σ, fun b hb => by cases hb⟩
  · have hS1 := hS.allocO (H' := H.allocT) C t .tail (n * sz) (c * sz) rfl (fun b => rfl) ⟨C, t, (0, 0), hnew, hc, hS.below.size, fun j _ _ => by omega⟩
    refine ⟨_, _, (σ.upd H.n (w.heap.size, n * sz, c * sz)).add Q, _, _, rfl, Sig.le_trans (Sig.le_upd hS _) (Sig.le_add _ _), hS1.freeze Q hcell fun b o p hb hw hp i ci hq => ?_, ?_, hk⟩
    · by_cases e : b = H.n
      · subst e
        have hb' : (if H.n = H.n then some AObj.tail else H.get H.n) = some o := hb
        rw [if_pos rfl] at hb'
        cases hb'
        simp only [Sig.upd, if_true] at hp
        cases hp
        rw [hQ] at hq
        obtain ⟨_, h2, u, h3, _⟩ := hq
        exact ⟨rfl, h2, u, h3⟩
      · exfalso
        have hb' : (if b = H.n then some AObj.tail else H.get b) = some o := hb
        rw [if_neg e] at hb'
        simp only [Sig.upd, if_neg e] at hp
        obtain ⟨p', hp', ho⟩ := hS.obj b o hb'
        rw [hp] at hp'; cases hp'
        rw [hQ] at hq
        have := ho.lt
        omega
    · simp only [VR]
      refine ⟨_, _, C.toList.take cs.length, rfl, hn, hcs, VRs.mono (Sig.le_trans (Sig.le_upd hS _) (Sig.le_add _ _)) _ _ hr, hf _, fun b hb => ?_⟩
      cases hb
      exact ⟨_, _, rfl, by simp [Sig.add, Sig.upd]⟩
/-- A new block that no one writes, by its address. -/
theorem Sim.newFptr (hS : Sim w0 σ H w) (C : Array Value) (t : TypeId) (cs : List AV) (hr : VRs σ cs C.toList) (hk : K (.fptr cs) H) :
    Eff P w0 σ K (.ok (.pointer (some ⟨w.heap.size, 0, none⟩)) (w.alloc (.cells C t))) := by
  obtain ⟨Q, hQ⟩ : ∃ Q : Nat → Nat → CI → Prop, Q = fun g i ci => g = w.heap.size ∧ ∃ u, ci = .at u ∧ C[i]? = some u := ⟨_, rfl⟩
  have hnew : (w.alloc (.cells C t)).heap[w.heap.size]? = some (.cells C t (0, 0)) := by show (w.heap.push _)[w.heap.size]? = _; simp
  have hS1 := hS.later (w' := w.alloc (.cells C t)) (Below.alloc (Below.refl _ _) (Nat.le_refl _) _)
  refine ⟨_, _, σ.add Q, _, _, rfl, Sig.le_add _ _, hS1.freeze Q (fun g i ci h => ?_) fun b o p hb hw hp i ci hq => ?_, ?_, hk⟩
  · rw [hQ] at h
    obtain ⟨rfl, u, rfl, h2⟩ := h
    exact ⟨C, _, _, hnew, h2⟩
  · exfalso
    obtain ⟨p', hp', ho⟩ := hS.obj b o hb
    rw [hp] at hp'; cases hp'
    rw [hQ] at hq
    have := ho.lt
    omega
  · simp only [VR]
    refine ⟨_, _, C.toList, rfl, VRs.mono (Sig.le_add _ _) _ _ hr, fun j u hj => ⟨_, _, .at u, rfl, rfl, .inr ?_⟩⟩
    rw [hQ]
    exact ⟨rfl, u, rfl, by simpa using hj⟩
theorem zerosA_run {zc : List AV} {C : Array Value} (h : VRs σ zc C.toList) (n : Nat) (hz : 0 < n → zc.length ≠ 0) : VRs σ (zerosA zc n) ((Array.range n).map (fun i => C[i % C.size]!)).toList := by
  have hl := h.length
  unfold zerosA
  refine VRs.of_get (by simp) fun i a v h1 h2 => ?_
  simp only [List.getElem?_map, Array.toList_map, Array.toList_range] at h1 h2
  obtain ⟨j, hj, rfl⟩ := Option.map_eq_some_iff.1 h1
  rw [hj] at h2
  simp only [Option.map_some, Option.some.injEq] at h2
  subst h2
  have hjn : j < n := by have := List.getElem?_eq_some_iff.1 hj; obtain ⟨q, rfl⟩ := this; simp at q ⊢; exact q
  have hz' := hz (by omega)
  have hlt : j % zc.length < zc.length := Nat.mod_lt _ (by omega)
  have hs : C.size = zc.length := by simpa using hl.symm
  have hlt' : j % C.size < C.size := by rw [hs]; exact hlt
  have e1 : zc[j % zc.length]? = some (zc.getD (j % zc.length) .undef) := by simp [List.getD, List.getElem?_eq_getElem hlt]
  refine h.get2 e1 ?_
  rw [← hs]
  simp [hlt']

theorem splice_take {α : Type} (L : List α) (k n off : Nat) (vs : List α) (h : k + n ≤ L.length) (h2 : off + vs.length ≤ n) :
    ((L.take (k + off) ++ vs ++ L.drop (k + off + vs.length)).drop k).take n = ((L.drop k).take n).take off ++ vs ++ ((L.drop k).take n).drop (off + vs.length) := by
  apply List.ext_getElem?
  intro j
  simp only [List.getElem?_take, List.getElem?_drop, List.getElem?_append, List.length_take, List.length_append, List.length_drop, List.take_take]
  have e1 : min (k + off) L.length = k + off := by omega
  have e2 : min off n = off := by omega
  have e3 : min off (min n (L.length - k)) = off := by omega
  have e4 : min off (L.length - k) = off := by omega
  simp only [e1, e2, e3, e4]
  by_cases a1 : j < n
  · rw [if_pos a1]
    rcases Nat.lt_or_ge j off with hlt | hge
    · have b1 : k + j < k + off + vs.length := by omega
      have b2 : k + j < k + off := by omega
      have b3 : j < off + vs.length := by omega
      simp [b1, b2, b3, hlt]
    · by_cases a2 : j < off + vs.length
      · have b1 : k + j < k + off + vs.length := by omega
        have b2 : ¬ k + j < k + off := by omega
        have b4 : k + j - (k + off) = j - off := by omega
        have b5 : ¬ j < off := by omega
        simp [b1, b2, a2, b4, b5]
      · have b1 : ¬ k + j < k + off + vs.length := by omega
        have b6 : k + off + vs.length + (k + j - (k + off + vs.length)) = k + j := by omega
        have b7 : off + vs.length + (j - (off + vs.length)) < n := by omega
        have b8 : k + (off + vs.length + (j - (off + vs.length))) = k + j := by omega
        simp [b1, a2, b6, b7, b8]
  · rw [if_neg a1]
    have b3 : ¬ j < off + vs.length := by omega
    have b7 : ¬ off + vs.length + (j - (off + vs.length)) < n := by omega
    simp [b3, b7]
theorem splice_length {cs : List AV} {off : Nat} {as : List AV} (h : off + as.length ≤ cs.length) : (splice cs off as).length = cs.length := by
  simp only [splice, List.length_append, List.length_take, List.length_drop]; omega

theorem Sim.write (hS : Sim w0 σ H w) {b g k e : Nat} {cs as : List AV} {vs : List Value} {off : Nat} (hb : H.get b = some (.cells cs true)) (hσ : σ b = some (g, k, e)) (hvs : VRs σ as vs) (ho : as.all AV.one = true) (hle : off + as.length ≤ cs.length) :
    ∃ w', (storeCells ⟨g, k + off, none⟩ vs).run P w = .ok () w' ∧ Sim w0 σ (H.put b (splice cs off as)) w' := by
  obtain ⟨p, hp, hrow⟩ := hS.obj b _ hb
  rw [hσ] at hp; cases hp
  obtain ⟨C, ty, f, r1, r2, r3, r4, r5⟩ := RowAt.row hrow
  obtain ⟨r6, r7⟩ := r5 rfl
  simp only at r1 r2 r3 r4 r6 r7
  have hvl := hvs.length
  obtain ⟨w', C', q1, q2, q3, q4, q5, q6, q7, q8, q9⟩ := storeCells_run (P := P) (g := g) (o := k + off) (t := ty) (f := f) vs 0 w C r1 (by omega) (fun j hj hj' => r7 j (by omega) (by omega)) (hvs.one ho)
  refine ⟨w', q1, hS.change hb hσ ⟨C', ty, f, q2, ?_, by rw [q3]; exact r3, ?_, fun _ => ⟨r6, r7⟩⟩ q5 q6 q7 q8 q9⟩
  · rw [splice_length hle]; exact r2
  · rw [splice_length hle, q4]
    simp only [Nat.add_zero]
    rw [splice_take C.toList k cs.length off vs (by simp; omega) (by omega)]
    have := ((r4.take off).append hvs).append (r4.drop (off + vs.length))
    simpa [splice, hvl] using this

theorem storeA_run (hS : Sim w0 σ H w) {t : TypeId} {x v : AV} (h : storeA P t x v H K) {x' v' : Value} (hx : VR σ x x') (hv : VR σ v v') :
    ∃ w' H', (Instr.storeAt t x' v').run P w = .ok () w' ∧ Sim w0 σ H' w' ∧ K .undef H' := by
  unfold storeA at h
  split at h
  · rename_i s b off hs
    split at h
    · rename_i cs hb
      obtain ⟨h1, h2, h3, hk⟩ := h
      simp only [VR] at hx
      obtain ⟨g, k, e, hσ, rfl⟩ := hx
      have hcs := hv.cells h2
      have hcl := hcs.length
      have hsz : v'.cells.size = s := by have : v'.cells.toList.length = v'.cells.size := by simp
                                         omega
      obtain ⟨i, hi, his⟩ := Option.map_eq_some_iff.1 hs
      obtain ⟨w', q1, q2⟩ := hS.write (P := P) (as := v.cells) (off := off) hb hσ hcs h2 (by omega)
      refine ⟨w', _, ?_, q2, hk⟩
      have : ¬ (v'.cells.size ≠ s) := by omega
      simp only [Instr.storeAt, Instr.sureAddr, storeVar, Sem.run_bind, Sem.run_pure, Result.andThen_ok, run_sizeOf hi, his, if_neg this]
      exact q1
    · exact h.elim
  · exact h.elim
end
end Go.Abs
