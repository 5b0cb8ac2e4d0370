/- Cells read and written. -/
import Derived.Test.YthkmbfifiojmhaaAbsF
import Derived.Laws.OwnMore
set_option linter.unusedSimpArgs false
set_option linter.unusedVariables false
namespace Go.Abs
open Go.RowKit

/-- So many cells of a row. -/
def rowA (H : Heap) (b : Option Nat) (off n : Nat) : Option (List AV) :=
  if n = 0 then some [] else
  match b with
  | some b => match H.get b with
    | some (.cells cs _) => if off + n ≤ cs.length then some ((cs.drop off).take n) else none
    | _ => none
  | none => none
def loadA (P : Program) (H : Heap) (t : TypeId) (x : AV) : Option AV :=
  match P.lk t, x with
  | some (ag, s), .ptr (some b) off =>
    match H.get b with
    | some (.cells cs _) => partA ag s cs off
    | _ => none
  | some (ag, s), .fptr cs => partA ag s cs 0
  | _, _ => none
/-- So many cells of a slice, from its first. -/
def cellsA (H : Heap) (x : AV) (n : Nat) : Option (List AV) :=
  match x with
  | .slice b off _ _ _ => rowA H b off n
  | .lst _ _ _ cs => if n ≤ cs.length then some (cs.take n) else none
  | _ => none

section
variable {P : Program} {w0 : World} {σ : Sig} {H : Heap} {w : World}

theorem RowAt.cell {B0 : Nat} {p : Place} {cs : List AV} {wr : Bool} (h : RowAt σ B0 w p cs wr) {i : Nat} {a : AV} (ha : cs[i]? = some a) :
    ∃ v, w.cell? ⟨p.1, p.2.1 + i, none⟩ = some v ∧ VR σ a v := by
  obtain ⟨C, t, f, h1, h2, h3, h4, h5⟩ := h.row
  obtain ⟨v, hv, hr⟩ := h4.get ha
  refine ⟨v, ?_, hr⟩
  rw [List.getElem?_take] at hv
  split at hv
  · rw [List.getElem?_drop] at hv
    simp only [World.cell?, h1]
    simpa using hv
  · cases hv

theorem FrAt.cell (hS : Sim w0 σ H w) {g o : Nat} {vs : List Value} (h : FrAt σ (some ⟨g, o, none⟩) vs) {j : Nat} {u : Value} (hj : vs[j]? = some u) : w.cell? ((⟨g, o, none⟩ : Addr).add j) = some u := by
  obtain ⟨g', o', ci, he, h1, h2⟩ := h j u hj
  cases he
  subst h1
  obtain ⟨C, t, f, h3, h5⟩ := hS.fz _ _ _ h2
  rw [Addr.add_lit]
  simp only [World.cell?, h3]
  rw [h5]
  rfl
theorem RowAt.load {B0 : Nat} {p : Place} {cs : List AV} {wr : Bool} (h : RowAt σ B0 w p cs wr) {off n : Nat} (hn : off + n ≤ cs.length) :
    ∃ vs : List Value, vs.length = n ∧ VRs σ ((cs.drop off).take n) vs ∧ (loadCells ⟨p.1, p.2.1 + off, none⟩ n).run P w = .ok vs.toArray w ∧ ∀ j v, vs[j]? = some v → w.cell? ((⟨p.1, p.2.1 + off, none⟩ : Addr).add j) = some v := by
  obtain ⟨C, t, f, h1, h2, h3, h4, h5⟩ := h.row
  have hcl : (C.toList.drop p.2.1).length = C.size - p.2.1 := by simp
  refine ⟨(C.toList.drop (p.2.1 + off)).take n, ?_, ?_, ?_, ?_⟩
  · simp; omega
  · have := (h4.drop off).take n
    rw [List.drop_take, List.take_take, List.drop_drop] at this
    rwa [Nat.min_eq_left (by omega)] at this
  · have := run_loadCells_list (P := P) w ⟨p.1, p.2.1 + off, none⟩ ((C.toList.drop (p.2.1 + off)).take n) (fun j v hv => by
      rw [List.getElem?_take] at hv
      split at hv
      · rw [List.getElem?_drop] at hv
        rw [Addr.add_lit]
        simp only [World.cell?, h1]
        simpa using hv
      · cases hv)
    have hl : ((C.toList.drop (p.2.1 + off)).take n).length = n := by simp; omega
    rw [hl] at this
    exact this
  · intro j v hv
    rw [List.getElem?_take] at hv
    split at hv
    · rw [List.getElem?_drop] at hv
      rw [Addr.add_lit]
      simp only [World.cell?, h1]
      simpa using hv
    · cases hv

theorem loadA_run (hS : Sim w0 σ H w) {t : TypeId} {x r : AV} (h : loadA P H t x = some r) {v : Value} (hv : VR σ x v) :
    ∃ z, (Instr.loadAt t v).run P w = .ok z w ∧ VR σ r z := by
  unfold loadA at h
  split at h
  · rename_i ag s b off hl
    split at h
    · rename_i cs wr hb
      simp only [VR] at hv
      obtain ⟨g, k, e, hσ, rfl⟩ := hv
      obtain ⟨p, hp, ho⟩ := hS.obj b _ hb
      rw [hσ] at hp; cases hp
      obtain ⟨hag, i, hi, hs⟩ := lk_parts hl
      unfold partA at h
      cases ag with
      | true =>
        simp only [if_true] at h
        split at h
        · rename_i hle
          cases h
          obtain ⟨vs, hvl, hvr, hrun, _⟩ := RowAt.load (P := P) ho hle
          refine ⟨.agg vs.toArray, ?_, by simp only [VR]; exact ⟨_, rfl, by simpa using hvr⟩⟩
          simp only [Instr.loadAt, Instr.sureAddr, loadVar, Sem.run_bind, Sem.run_pure, Result.andThen_ok, run_isAgg hag, if_true, run_sizeOf hi, hs]
          rw [hrun]; rfl
        · cases h
      | false =>
        simp only [Bool.false_eq_true, if_false] at h
        obtain ⟨z, hz, hr⟩ := RowAt.cell ho h
        refine ⟨z, ?_, hr⟩
        simp only [Instr.loadAt, Instr.sureAddr, loadVar, Sem.run_bind, Sem.run_pure, Result.andThen_ok, run_isAgg hag, Bool.false_eq_true, if_false, run_load]
        rw [hz]
    · cases h
  · rename_i ag s cs hl
    simp only [VR] at hv
    obtain ⟨g, o, vs, rfl, hvs, hfr⟩ := hv
    obtain ⟨hag, i, hi, hs⟩ := lk_parts hl
    unfold partA at h
    cases ag with
    | true =>
      simp only [if_true] at h
      split at h
      · rename_i hle
        cases h
        have hvl := hvs.length
        have hrun := run_loadCells_list (P := P) w ⟨g, o, none⟩ (vs.take s) (fun j v hj => by
          rw [List.getElem?_take] at hj
          split at hj
          · exact hfr.cell hS hj
          · cases hj)
        rw [show (vs.take s).length = s by simp; omega] at hrun
        refine ⟨.agg (vs.take s).toArray, ?_, by simp only [VR]; exact ⟨_, rfl, by simpa using hvs.take s⟩⟩
        simp only [Instr.loadAt, Instr.sureAddr, loadVar, Sem.run_bind, Sem.run_pure, Result.andThen_ok, run_isAgg hag, if_true, run_sizeOf hi, hs]
        rw [hrun]
        try rfl
      · cases h
    | false =>
      simp only [Bool.false_eq_true, if_false] at h
      obtain ⟨z, hz, hr⟩ := hvs.get h
      refine ⟨z, ?_, hr⟩
      have := hfr.cell hS hz
      rw [Addr.add_lit] at this
      simp only [Instr.loadAt, Instr.sureAddr, loadVar, Sem.run_bind, Sem.run_pure, Result.andThen_ok, run_isAgg hag, Bool.false_eq_true, if_false, run_load]
      simp only [Nat.add_zero] at this
      rw [this]
  · cases h

theorem rowA_run (hS : Sim w0 σ H w) {b : Option Nat} {off len n sz : Nat} {cap : Option Nat} {cs : List AV} {v : Value} (hv : VR σ (.slice b off len sz cap) v) (h : rowA H b off n = some cs) (hn : n ≤ len * sz) :
    ∃ a c vs, v = .slice a len c ∧ vs.length = n ∧ VRs σ cs vs ∧ (0 < n → ∃ ad, a = some ad ∧ ∀ (j : Nat) z, vs[j]? = some z → w.cell? (ad.add j) = some z) := by
  unfold rowA at h
  split at h
  · rename_i h0
    cases h
    subst h0
    obtain ⟨a, c, rfl, _⟩ := VR_slice_form hv
    exact ⟨a, c, [], rfl, rfl, by simp only [VRs], fun h => by omega⟩
  · rename_i h0
    split at h
    · rename_i b
      split at h
      · rename_i cs' wr hb
        split at h
        · rename_i hle
          cases h
          simp only [VR] at hv
          obtain ⟨g, k, e, o, c, hσ, rfl, hlc, ho, _⟩ := hv
          have hc : 0 < c := by
            rcases Nat.eq_zero_or_pos c with h | h
            · subst h; have : len = 0 := by omega
              subst this; simp at hn; omega
            · exact h
          obtain ⟨rfl, _⟩ := ho hc
          obtain ⟨p, hp, hrow⟩ := hS.obj b _ hb
          rw [hσ] at hp; cases hp
          obtain ⟨vs, hvl, hvr, _, hcell⟩ := RowAt.load (P := (default : Program)) hrow hle
          exact ⟨_, c, vs, rfl, hvl, hvr, fun _ => ⟨_, rfl, hcell⟩⟩
        · cases h
      · cases h
    · cases h

theorem cellsA_run (hS : Sim w0 σ H w) {x : AV} {n len sz : Nat} {cs : List AV} {v : Value} (hv : VR σ x v) (h : cellsA H x n = some cs) (hx : (∃ b off cap, x = .slice b off len sz cap) ∨ ∃ t cs', x = .lst t len sz cs') (hn : n ≤ len * sz) :
    ∃ a c vs, v = .slice a len c ∧ len ≤ c ∧ vs.length = n ∧ VRs σ cs vs ∧ (0 < n → ∃ ad, a = some ad ∧ ∀ (j : Nat) z, vs[j]? = some z → w.cell? (ad.add j) = some z) := by
  rcases hx with ⟨b, off, cap, rfl⟩ | ⟨t, cs', rfl⟩
  · obtain ⟨a, c, vs, rfl, h1, h2, h3⟩ := rowA_run hS hv h hn
    refine ⟨a, c, vs, rfl, ?_, h1, h2, h3⟩
    obtain ⟨a', c', he, hlc, _⟩ := VR_slice_form hv
    cases he; exact hlc
  · simp only [cellsA] at h
    split at h
    · rename_i hle
      cases h
      simp only [VR] at hv
      obtain ⟨a, c, vs, rfl, hlc, hcl, hvs, hfr, _⟩ := hv
      have hvl := hvs.length
      refine ⟨a, c, vs.take n, rfl, hlc, by simp; omega, hvs.take n, fun h0 => ?_⟩
      obtain ⟨g, o, ci, ha, _⟩ := hfr 0 (vs[0]'(by omega)) (List.getElem?_eq_getElem (by omega))
      subst ha
      refine ⟨_, rfl, fun j z hj => ?_⟩
      rw [List.getElem?_take] at hj
      split at hj
      · exact hfr.cell hS hj
      · cases hj
    · cases h
/-- Cells stored one behind the other. -/
theorem storeCells_run {g o : Nat} {t : TypeId} {f : Nat × Nat} : ∀ (vs : List Value) (i : Nat) (w : World) (C : Array Value), w.heap[g]? = some (.cells C t f) → o + i + vs.length ≤ C.size →
    (∀ j, o + i ≤ j → j < o + i + vs.length → ¬ (f.1 ≤ j ∧ j < f.2)) → (∀ v ∈ vs, v.oneCell' = true) →
    ∃ w' C', (storeCells ⟨g, o, none⟩ vs i).run P w = .ok () w' ∧ w'.heap[g]? = some (.cells C' t f) ∧ C'.size = C.size ∧
      C'.toList = C.toList.take (o + i) ++ vs ++ C.toList.drop (o + i + vs.length) ∧ (∀ b, b ≠ g → w'.heap[b]? = w.heap[b]?) ∧ w'.heap.size = w.heap.size ∧
      w'.os = w.os ∧ w'.tape = w.tape ∧ w'.output = w.output
  | [], i, w, C, h, _, _, _ => ⟨w, C, rfl, h, rfl, by simp, fun _ _ => rfl, rfl, rfl, rfl, rfl⟩
  | v :: vs, i, w, C, h, hl, hf, hv => by
    simp only [List.length_cons] at hl
    have hcell : ∃ u, w.cell? ⟨g, o + i, none⟩ = some u := by
      have : o + i < C.size := by omega
      exact ⟨C[o + i], by simp [World.cell?, h, this]⟩
    obtain ⟨u, hu⟩ := hcell
    have hfz : w.frozen? ⟨g, o + i, none⟩ = false := by
      have := hf (o + i) (by omega) (by simp)
      simp only [World.frozen?, h]
      simpa using this
    have hst : (store ((⟨g, o, none⟩ : Addr).add i) v).run P w = .ok () (w.setCell ⟨g, o + i, none⟩ v) := by
      rw [Addr.add_lit, run_store P w _ v _ (hv v (by simp)), hu, hfz]; rfl
    have hset : (w.setCell ⟨g, o + i, none⟩ v).heap[g]? = some (.cells (C.setIfInBounds (o + i) v) t f) := by
      simp [World.setCell, Array.getElem?_modify, h]
    obtain ⟨w', C', h1, h2, h3, h4, h5, h6, h7, h8, h9⟩ := storeCells_run (g := g) (o := o) (t := t) (f := f) vs (i + 1) (w.setCell ⟨g, o + i, none⟩ v) (C.setIfInBounds (o + i) v) hset (by simp; omega)
      (fun j hj hj' => hf j (by omega) (by simp; omega)) (fun x hx => hv x (by simp [hx]))
    refine ⟨w', C', ?_, h2, by simpa using h3, ?_, fun b hb => (h5 b hb).trans (Below.heap_setCell _ _ _ _ hb), by simpa using h6, h7, h8, h9⟩
    · simp only [storeCells, Sem.run_bind, hst, Result.andThen_ok, h1]
    · rw [h4]
      apply List.ext_getElem?
      intro j
      simp only [Array.toList_setIfInBounds, List.getElem?_append, List.getElem?_take, List.getElem?_drop, List.length_take, List.length_append, List.length_set, Array.length_toList, List.length_cons, List.getElem?_set]
      have e1 : min (o + (i + 1)) C.size = o + i + 1 := by omega
      have e2 : min (o + i) C.size = o + i := by omega
      simp only [e1, e2]
      rcases Nat.lt_trichotomy j (o + i) with hlt | heq | hgt
      · have a1 : j < o + i + 1 + vs.length := by omega
        have a2 : j < o + i + 1 := by omega
        have a3 : j < o + (i + 1) := by omega
        have a4 : o + i ≠ j := by omega
        have a5 : j < o + i + (vs.length + 1) := by omega
        simp [a1, a2, a3, a4, a5, hlt]
      · subst heq
        have a1 : o + i < o + i + 1 + vs.length := by omega
        have a2 : o + i < o + (i + 1) := by omega
        have a6 : o + i < C.size := by omega
        simp [a1, a2, a6]
      · obtain ⟨d, rfl⟩ : ∃ d, j = o + i + 1 + d := ⟨j - (o + i + 1), by omega⟩
        by_cases hd : d < vs.length
        · have a1 : o + i + 1 + d < o + i + 1 + vs.length := by omega
          have a2 : ¬ o + i + 1 + d < o + i + 1 := by omega
          have a3 : ¬ o + i + 1 + d < o + i := by omega
          have a5 : o + i + 1 + d < o + i + (vs.length + 1) := by omega
          have a6 : o + i + 1 + d - (o + i + 1) = d := by omega
          have a7 : o + i + 1 + d - (o + i) = d + 1 := by omega
          simp [a1, a2, a3, a5, a6, a7]
        · have a1 : ¬ o + i + 1 + d < o + i + 1 + vs.length := by omega
          have a5 : ¬ o + i + 1 + d < o + i + (vs.length + 1) := by omega
          have a8 : o + (i + 1) + vs.length + (o + i + 1 + d - (o + i + 1 + vs.length)) = o + i + 1 + d := by omega
          have a9 : o + i + (vs.length + 1) + (o + i + 1 + d - (o + i + (vs.length + 1))) = o + i + 1 + d := by omega
          have a10 : o + i ≠ o + i + 1 + d := by omega
          simp [a1, a5, a8, a9, a10]

theorem VRs.one {σ : Sig} : ∀ {as : List AV} {vs : List Value}, VRs σ as vs → as.all AV.one = true → ∀ v ∈ vs, v.oneCell' = true
  | [], [], _, _, v, hv => by cases hv
  | a :: as, u :: us, h, ho, v, hv => by
    simp only [VRs] at h
    simp only [List.all_cons, Bool.and_eq_true] at ho
    cases hv with
    | head => exact h.1.one ho.1
    | tail _ hv => exact VRs.one h.2 ho.2 v hv
  | [], _ :: _, h, _, _, _ => by simp only [VRs] at h
  | _ :: _, [], h, _, _, _ => by simp only [VRs] at h

/-- A world that differs at one block. -/
theorem Sim.change (hS : Sim w0 σ H w) {b g k e : Nat} {cs cs' : List AV} {w' : World} (hb : H.get b = some (.cells cs true)) (hσ : σ b = some (g, k, e)) (hrow : RowAt σ w0.heap.size w' (g, k, e) cs' true)
    (ho : ∀ c, c ≠ g → w'.heap[c]? = w.heap[c]?) (hsz : w'.heap.size = w.heap.size) (h1 : w'.os = w.os) (h2 : w'.tape = w.tape) (h3 : w'.output = w.output) : Sim w0 σ (H.put b cs') w' := by
  have hbase : w0.heap.size ≤ g := by
    obtain ⟨p, hp, hob⟩ := hS.obj b _ hb
    rw [hσ] at hp; cases hp
    exact hob.base rfl
  refine ⟨⟨h1.trans hS.below.os, h2.trans hS.below.tape, h3.trans hS.below.output, by rw [hsz]; exact hS.below.size, fun i hi => (ho i (by omega)).trans (hS.below.block i hi)⟩, hS.dom, fun c o hc => ?_, fun c c' o o' p p' hne hc hc' hw hp hp' => ?_, fun g' i ci hi => ?_, fun c o p hc hw hp i ci hi => ?_⟩
  · simp only [Heap.put] at hc
    by_cases ec : c = b
    · rw [if_pos ec] at hc; cases hc; subst ec
      exact ⟨_, hσ, hrow⟩
    · rw [if_neg ec] at hc
      obtain ⟨p, hp, hob⟩ := hS.obj c o hc
      have := hS.sep b c _ o _ p (fun x => ec x.symm) hb hc rfl hσ hp
      exact ⟨p, hp, hob.mono (Sig.le_refl _) (ho _ (fun x => this x.symm))⟩
  · simp only [Heap.put] at hc hc'
    by_cases ec : c = b
    · subst ec
      rw [if_neg (fun x => hne x.symm)] at hc'
      exact hS.sep c c' _ o' p p' hne hb hc' rfl hp hp'
    · rw [if_neg ec] at hc
      by_cases ec' : c' = b
      · subst ec'
        exact fun x => hS.sep c' c _ o p' p (fun y => hne y.symm) hb hc rfl hp' hp x.symm
      · rw [if_neg ec'] at hc'
        exact hS.sep c c' o o' p p' hne hc hc' hw hp hp'
  · by_cases e : g' = g
    · subst e
      have := (hS.own b _ _ hb rfl hσ i ci hi).1
      cases this
    · exact (hS.fz g' i ci hi).mono (ho _ e)
  · simp only [Heap.put] at hc
    by_cases ec : c = b
    · subst ec
      have := (hS.own c _ p hb rfl hp i ci hi).1
      cases this
    · rw [if_neg ec] at hc
      exact hS.own c o p hc hw hp i ci hi
end
end Go.Abs
