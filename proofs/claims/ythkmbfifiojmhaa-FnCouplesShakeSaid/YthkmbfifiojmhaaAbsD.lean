/- All operations that touch no memory. -/
import Derived.Test.YthkmbfifiojmhaaAbsC
set_option linter.unusedSimpArgs false
set_option linter.unusedVariables false
namespace Go.Abs
open Go.RowKit

/-- Bytes and zero value of a type. -/
def _root_.Go.Program.bz (P : Program) (t : TypeId) : Option (Nat × Value) := (P.info? t).bind fun i => i.zero.map fun z => (i.bytes, z)
def partA (a : Bool) (s : Nat) (cs : List AV) (off : Nat) : Option AV :=
  if a then (if off + s ≤ cs.length then some (.agg ((cs.drop off).take s)) else none) else cs[off]?
def splice (cs : List AV) (off : Nat) (vs : List AV) : List AV := cs.take off ++ vs ++ cs.drop (off + vs.length)
def fillA (place : Nat → Option (Nat × Nat)) : List AV → List (Nat × AV) → Option (List AV)
  | cells, [] => some cells
  | cells, (i, v) :: rest =>
    match place i with
    | none => none
    | some (off, size) => if v.cells.length = size ∧ off + size ≤ cells.length ∧ v.cells.all AV.one = true then fillA place (splice cells off v.cells) rest else none
def boundA (x : Option AV) (d : Nat) : Option Nat :=
  match x with
  | none => some d
  | some (.int _ n) => if 0 ≤ n then some n.toNat else none
  | _ => none
def sliceA (P : Program) (t : TypeId) (x : AV) (lo hi mx : Option AV) : Option AV :=
  match P.tk t, x with
  | .slice _ s, .slice b off len sz cap =>
    match boundA lo 0, boundA hi len, mx with
    | some l, some h, none => if (s = sz ∨ b = none) ∧ l ≤ h ∧ h ≤ max len (cap.getD 0) then some (.slice b (off + l * s) (h - l) sz (cap.map (· - l))) else none
    | some l, some h, some m =>
      match boundA (some m) 0, hi with
      | some m, some _ => if (s = sz ∨ b = none) ∧ l ≤ h ∧ h ≤ m ∧ m ≤ cap.getD len then some (.slice b (off + l * s) (h - l) sz (some (m - l))) else none
      | _, _ => none
    | _, _, _ => none
  | .slice _ s, .lst _ len sz cs =>
    match boundA lo 0, boundA hi len, mx with
    | some l, some h, none => if s = sz ∧ l ≤ h ∧ h ≤ len then some (.lst none (h - l) sz ((cs.drop (l * sz)).take ((h - l) * sz))) else none
    | _, _, _ => none
  | .str, .str s =>
    match boundA lo 0, boundA hi s.length, mx with
    | some l, some h, none => if l ≤ h ∧ h ≤ s.length then some (.str ((s.drop l).take (h - l))) else none
    | _, _, _ => none
  | _, _ => none
def max2A (k : IntKind) (x y : Int) : Int := if y > x then y else x
def min2A (k : IntKind) (x y : Int) : Int := if y < x then y else x
def pureA (P : Program) (ρ : Operand → AV) : Op → Option AV
  | .move x => some (ρ x)
  | .assign x => some (ρ x)
  | .pick c a b => match ρ c with | .bool t => some (if t = true then ρ a else ρ b) | _ => none
  | .binOp op t x y _ => binA P op t (ρ x) (ρ y)
  | .unOp op _ x =>
    match op, ρ x with
    | .not, .bool b => some (.bool (!b))
    | .neg, .int k n => some (.int k (k.wrap (0 - n)))
    | .xor, .int k n => some (.int k (bits .xor k (if k.signed then -1 else k.max) n))
    | _, _ => none
  | .convert src dst x =>
    match P.tk dst, ρ x, (P.underlying src).isSome with
    | .int k, .int _ n, true => some (.int k (k.wrap n))
    | _, _, _ => none
  | .fieldAddr s x f =>
    match P.tk s, ρ x with
    | .struct fs, .ptr (some b) off => match fs[f]? with | some fk => if fk.size = 0 then none else some (.ptr (some b) (off + fk.off)) | none => none
    | .struct fs, .fptr cs => match fs[f]? with | some fk => if fk.size = 0 then none else some (.fptr (cs.drop fk.off)) | none => none
    | _, _ => none
  | .field t x f =>
    match P.tk t, ρ x with
    | .struct fs, .agg cs => match fs[f]? with | some fk => partA fk.agg fk.size cs fk.off | none => none
    | _, _ => none
  | .indexAddr t x i =>
    match P.tk t, ρ x, ρ i with
    | .slice _ s, .slice b off len _ _, .int _ n => if 0 ≤ n ∧ n < len then some (.ptr b (off + n.toNat * s)) else none
    | .slice _ s, .lst _ len sz cs, .int _ n => if 0 ≤ n ∧ n < len ∧ s = sz ∧ 0 < s then some (.fptr (cs.drop (n.toNat * s))) else none
    | .array m _ _ s, .ptr (some b) off, .int _ n => if 0 ≤ n ∧ n < m then some (.ptr (some b) (off + n.toNat * s)) else none
    | _, _, _ => none
  | .index t x i =>
    match P.tk t, ρ x, ρ i with
    | .str, .str l, .int _ n => if 0 ≤ n then (l[n.toNat]?).map fun c => .int .u8 c.toNat else none
    | .array m _ a s, .agg cs, .int _ n => if 0 ≤ n ∧ n < m then partA a s cs (n.toNat * s) else none
    | _, _, _ => none
  | .slice t x lo hi mx => sliceA P t (ρ x) (lo.map ρ) (hi.map ρ) (mx.map ρ)
  | .extract x i => match ρ x with | .tuple vs => vs[i]? | _ => none
  | .build t parts =>
    match P.tk t, P.bz t with
    | .struct fs, some (_, z) => (fillA (fun i => (fs[i]?).map fun f => (f.off, f.size)) (absV z).cells (parts.toList.map fun p => (p.1, ρ p.2))).map .agg
    | _, _ => none
  | .nilCheck x => match ρ x with | .ptr (some b) off => some (.ptr (some b) off) | .fptr cs => some (.fptr cs) | _ => none
  | .makeFunc fn first captured => some (.func fn (first.toList.map ρ) (captured.toList.map ρ))
  | .call c =>
    match c.callee, c.args.toList, c.argTypes.toList with
    | .builtin .len, [x], [t] =>
      match P.tk t, ρ x with
      | .slice _ _, .slice _ _ len _ _ => some (.int .i64 len)
      | .slice _ _, .lst _ len _ _ => some (.int .i64 len)
      | .str, .str s => some (.int .i64 s.length)
      | _, _ => none
    | .builtin .cap, [x], [t] =>
      match P.tk t, ρ x with
      | .slice _ _, .slice _ _ _ _ (some c) => some (.int .i64 c)
      | _, _ => none
    | .builtin .max, [x, y], _ => match ρ x, ρ y with | .int k a, .int _ b => some (.int k (max2A k a b)) | _, _ => none
    | .builtin .min, [x, y], _ => match ρ x, ρ y with | .int k a, .int _ b => some (.int k (min2A k a b)) | _, _ => none
    | _, _, _ => none
  | _ => none

section
variable {P : Program} {σ : Sig}
theorem bz_parts {t : TypeId} {b : Nat} {z : Value} (h : P.bz t = some (b, z)) : ∃ i, P.info? t = some i ∧ i.bytes = b ∧ i.zero = some z := by
  unfold Program.bz at h
  obtain ⟨i, hi, h⟩ := Option.bind_eq_some_iff.1 h
  obtain ⟨z', hz, h⟩ := Option.map_eq_some_iff.1 h
  cases h
  exact ⟨i, hi, rfl, hz⟩
theorem partA_run {t : TypeId} {a : Bool} {s : Nat} (hl : P.lk t = some (a, s)) {cs : List AV} {off : Nat} {r : AV} (h : partA a s cs off = some r) {C : Array Value} (hc : VRs σ cs C.toList) (w : World) :
    ∃ v, (part t C off).run P w = .ok v w ∧ VR σ r v := by
  obtain ⟨ha, i, hi, hs⟩ := lk_parts hl
  unfold partA at h
  cases a with
  | true =>
    simp only [if_true] at h
    split at h
    · rename_i hle
      cases h
      refine ⟨.agg (C.extract off (off + s)), by simp [part, run_isAgg ha, run_sizeOf hi, hs], ?_⟩
      simp only [VR]
      refine ⟨_, rfl, ?_⟩
      have := (hc.drop off).take s
      simpa [Array.toList_extract, List.extract_eq_take_drop] using this
    · cases h
  | false =>
    simp only [Bool.false_eq_true, if_false] at h
    obtain ⟨v, hv, hr⟩ := hc.get h
    have : C[off]? = some v := by simpa using hv
    exact ⟨v, by simp [part, run_isAgg ha, this], hr⟩

theorem splice_list (cs : List Value) (off : Nat) (vs : List Value) (h : off + vs.length ≤ cs.length) : ∀ (C : Array Value), C.toList = cs → ((vs.zipIdx.foldl (fun (acc : Array Value) (p : Value × Nat) => acc.setIfInBounds (off + p.2) p.1) C)).toList = cs.take off ++ vs ++ cs.drop (off + vs.length) := by
  have key : ∀ (us : List Value) (j : Nat) (D : Array Value), off + j + us.length ≤ D.size →
      ((us.zipIdx j).foldl (fun (acc : Array Value) (p : Value × Nat) => acc.setIfInBounds (off + p.2) p.1) D).toList = D.toList.take (off + j) ++ us ++ D.toList.drop (off + j + us.length) := by
    intro us
    induction us with
    | nil => intro j D _; simp
    | cons u us ih =>
      intro j D hD
      simp only [List.zipIdx_cons, List.foldl_cons]
      simp only [List.length_cons] at hD
      rw [ih (j + 1) _ (by simp; omega)]
      apply List.ext_getElem?
      intro i
      simp only [Array.toList_setIfInBounds, List.getElem?_append, List.getElem?_take, List.getElem?_drop, List.length_take, List.length_append, List.length_set, Array.length_toList, List.length_cons, List.getElem?_set]
      have h1 : min (off + (j + 1)) D.size = off + j + 1 := by omega
      have h2 : min (off + j) D.size = off + j := by omega
      simp only [h1, h2]
      rcases Nat.lt_trichotomy i (off + j) with hlt | heq | hgt
      · have a1 : i < off + j + 1 + us.length := by omega
        have a2 : i < off + j + 1 := by omega
        have a3 : i < off + (j + 1) := by omega
        have a4 : off + j ≠ i := by omega
        have a5 : i < off + j + (us.length + 1) := by omega
        simp [a1, a2, a3, a4, a5, hlt]
      · subst heq
        have a1 : off + j < off + j + 1 + us.length := by omega
        have a2 : off + j < off + (j + 1) := by omega
        have a6 : off + j < D.size := by omega
        simp [a1, a2, a6]
      · obtain ⟨d, rfl⟩ : ∃ d, i = off + j + 1 + d := ⟨i - (off + j + 1), by omega⟩
        by_cases hd : d < us.length
        · have a1 : off + j + 1 + d < off + j + 1 + us.length := by omega
          have a2 : ¬ off + j + 1 + d < off + j + 1 := by omega
          have a3 : ¬ off + j + 1 + d < off + j := by omega
          have a5 : off + j + 1 + d < off + j + (us.length + 1) := by omega
          have a6 : off + j + 1 + d - (off + j + 1) = d := by omega
          have a7 : off + j + 1 + d - (off + j) = d + 1 := by omega
          simp [a1, a2, a3, a5, a6, a7]
        · have a1 : ¬ off + j + 1 + d < off + j + 1 + us.length := by omega
          have a5 : ¬ off + j + 1 + d < off + j + (us.length + 1) := by omega
          have a8 : off + (j + 1) + us.length + (off + j + 1 + d - (off + j + 1 + us.length)) = off + j + 1 + d := by omega
          have a9 : off + j + (us.length + 1) + (off + j + 1 + d - (off + j + (us.length + 1))) = off + j + 1 + d := by omega
          have a10 : off + j ≠ off + j + 1 + d := by omega
          simp [a1, a5, a8, a9, a10]
  intro C hC
  have := key vs 0 C (by rw [← hC] at h; simpa using h)
  rw [hC] at this
  simpa using this

theorem fillA_run {place : Nat → Option (Nat × Nat)} : ∀ {parts : List (Nat × AV)} {parts' : List (Nat × Value)} {cells r : List AV} {C : Array Value}, fillA place cells parts = some r → VRs σ cells C.toList →
    parts.map (·.1) = parts'.map (·.1) → VRs σ (parts.map (·.2)) (parts'.map (·.2)) → ∃ D, Instr.fill place C parts' = some D ∧ VRs σ r D.toList
  | [], [], cells, r, C, h, hc, _, _ => by simp [fillA] at h; subst h; exact ⟨C, rfl, hc⟩
  | (i, v) :: rest, (i', v') :: rest', cells, r, C, h, hc, hi, hv => by
    simp only [List.map_cons, List.cons.injEq] at hi
    obtain ⟨rfl, hi⟩ := hi
    simp only [List.map_cons, VRs] at hv
    simp only [fillA] at h
    cases hp : place i with
    | none => simp [hp] at h
    | some q =>
      obtain ⟨off, size⟩ := q
      simp only [hp] at h
      split at h
      · rename_i hcond
        obtain ⟨h1, h2, h3⟩ := hcond
        have hcs := hv.1.cells h3
        have hlen := hcs.length
        have hlC := hc.length
        have hsz : v'.cells.size = size := by have : v'.cells.toList.length = v'.cells.size := by simp
                                              omega
        have hCs : C.toList.length = C.size := by simp
        have hcond' : (decide (v'.cells.size ≠ size) || decide (off + v'.cells.size > C.size)) = false := by simp [hsz]; omega
        have hsp := splice_list C.toList off v'.cells.toList (by simp; omega) C rfl
        have hfold : (v'.cells.zipIdx.foldl (fun (cs : Array Value) (x : Value × Nat) => cs.setIfInBounds (off + x.2) x.1) C).toList = C.toList.take off ++ v'.cells.toList ++ C.toList.drop (off + v'.cells.toList.length) := by
          rw [← hsp, ← Array.foldl_toList, Array.toList_zipIdx]
        obtain ⟨D, hD, hr⟩ := fillA_run (C := v'.cells.zipIdx.foldl (fun (cs : Array Value) (x : Value × Nat) => cs.setIfInBounds (off + x.2) x.1) C) h
          (by rw [hfold]; exact ((hc.take off).append hcs).append (by rw [← hlen]; exact hc.drop _)) hi hv.2
        refine ⟨D, ?_, hr⟩
        simp only [Instr.fill, hp, hcond', Bool.false_eq_true, if_false]
        exact hD
      · cases h
  | [], _ :: _, _, _, _, _, _, h, _ => by simp at h
  | _ :: _, [], _, _, _, _, _, h, _ => by simp at h
end
end Go.Abs
